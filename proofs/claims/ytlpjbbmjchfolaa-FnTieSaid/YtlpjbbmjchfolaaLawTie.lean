/- The plain law of two that put in one place. No program in sight. No condition. -/
import Derived.Test.YtlpjbbmjchfolaaLaw
import Derived.Test.YtlpjbbmjchfolaaStep
import Derived.Test.YtlpjbbmjchfolaaPlace
namespace Go.Proofs.Ytlpjbbmjchfolaa
namespace Pl
/-- Units without a drop have no other order. -/
theorem sw_noDrop {a b : List U} (h : Sw a b) (hd : (some none : U) ∉ a) : a = b :=
  (h.ind (fun x y => ((some none : U) ∈ x ↔ (some none : U) ∈ y) ∧ ((some none : U) ∉ x → x = y)) (fun _ => ⟨Iff.rfl, fun _ => rfl⟩) (fun x y k => ⟨k.1.symm, fun hy => (k.2 (fun hx => hy (k.1.1 hx))).symm⟩)
    (fun x y z k l => ⟨k.1.trans l.1, fun hx => (k.2 hx).trans (l.2 fun hy => hx (k.1.2 hy))⟩) fun x y c => ⟨by simp, fun hx => by simp at hx⟩).2 hd
/-- The units of what puts l at a place. -/
theorem units_putAt {N A : Nat} {l : List Int} (h1 : A ≤ N) (h2 : N ≤ 200) (hl : signsOk l = true) (h3 : N + l.length ≤ 200) :
    placeOk N A l 0 = true ∧ Op (place N A l 0) N (N + l.length) ∧ units (place N A l 0) = ks A ++ (pus l ++ ks (N - A)) := by
  have hparts : ∀ p ∈ placeO N A l 0, partOk p = true := by
    intro p hp
    simp only [placeO, List.mem_cons, List.not_mem_nil, or_false] at hp
    rcases hp with rfl | rfl | rfl | rfl
    · exact partOk_of (.inl ⟨rfl, by show (0 : Int) ≤ (A : Int); omega, by show (A : Int) ≤ 200; omega, rfl⟩)
    · exact partOk_of (.inr (.inr ⟨rfl, rfl, by show l.length ≤ 200; omega, hl⟩))
    · exact partOk_of (.inr (.inl ⟨rfl, by show (0 : Int) ≤ 0; omega, by show (0 : Int) ≤ 200; omega, rfl⟩))
    · exact partOk_of (.inl ⟨rfl, by show (0 : Int) ≤ (N : Int) - A - 0; omega, by show (N : Int) - A - 0 ≤ 200; omega, rfl⟩)
  have hk : keeps (placeO N A l 0) = N ∧ drops (placeO N A l 0) = 0 ∧ puts (placeO N A l 0) = l.length := by
    refine ⟨?_, ?_, ?_⟩
    · simp [placeO, keeps, keepsP]; omega
    · simp [placeO, drops, dropsP]
    · simp [placeO, puts, putsP]
  have ho : opOk (placeO N A l 0) = true := (opOk_short (o := placeO N A l 0) (by simp [placeO])).2 ⟨hparts, by omega, by omega⟩
  have hok : placeOk N A l 0 = true := by
    unfold placeOk
    rw [ho, Bool.and_true, decide_eq_true_eq]
    omega
  have hop : Op (placeO N A l 0) N (N + l.length) := by
    obtain ⟨e1, e2⟩ := okParts_units hparts
    exact ⟨ho, by omega, by omega⟩
  have he : place N A l 0 = norm (placeO N A l 0) := by rw [place, if_pos hok]
  have hu : units (placeO N A l 0) = ks A ++ (pus l ++ ks (N - A)) := by
    have e1 : ((N : Int) - A - 0).toNat = N - A := by omega
    have e0 : units (placeO N A l 0) = unitsP ⟨1, A, []⟩ ++ (unitsP ⟨2, 0, l⟩ ++ (unitsP ⟨3, 0, []⟩ ++ unitsP ⟨1, (N : Int) - A - 0, []⟩)) := by simp [units, placeO]
    rw [e0, unitsP_1 (by rfl), unitsP_2 (by rfl), unitsP_3 (by rfl), unitsP_1 (by rfl)]
    simp only [Int.toNat_natCast, Int.toNat_zero, e1]
    simp [ds]
  have hnd : (some none : U) ∉ units (placeO N A l 0) := by rw [hu]; simp [ks, pus]
  have hsw : Sw (units (placeO N A l 0)) (units (norm (placeO N A l 0))) := by rw [ok_norm ho]; exact (units_grp _).symm
  refine ⟨hok, by rw [he]; exact hop.norm.1, ?_⟩
  rw [he, ← sw_noDrop hsw hnd, hu]
/-- What the two come to. -/
theorem tie {N A : Nat} {x y : List Int} (h1 : A ≤ N) (h2 : N ≤ 90) (hx : signsOk x = true) (hy : signsOk y = true) (lx : x.length ≤ 10) (ly : y.length ≤ 10) {t : List Int} (ht : Tx t N) :
    xfOk (place N A x 0) (place N A y 0) = true ∧ trans2 (place N A x 0) (place N A y 0) = xf2 (place N A x 0) (place N A y 0) ∧
    fits (place N A x 0) t = true ∧ apply (place N A x 0) t = t.take A ++ (x ++ t.drop A) ∧
    fits (xf2 (place N A x 0) (place N A y 0)) (t.take A ++ (x ++ t.drop A)) = true ∧
    apply (xf2 (place N A x 0) (place N A y 0)) (t.take A ++ (x ++ t.drop A)) = t.take A ++ (x ++ (y ++ t.drop A)) := by
  obtain ⟨_, ox, ux⟩ := units_putAt h1 (by omega) hx (by omega)
  obtain ⟨_, oy, uy⟩ := units_putAt (l := y) h1 (by omega) hy (by omega)
  obtain ⟨t1, _, t3, j, _, _, o2, _, _, _⟩ := ox.trans oy (by omega)
  obtain ⟨f1, f2, f3⟩ := ox.apply ht
  have tl := ht.len
  have ea : app (units (place N A x 0)) t = t.take A ++ (x ++ t.drop A) := by
    rw [ux, app_keeps, app_puts]
    have := app_keeps (N - A) [] (t.drop A)
    rw [List.append_nil] at this
    rw [this, app, List.append_nil, show (t.drop A).take (N - A) = t.drop A from List.take_of_length_le (by rw [List.length_drop]; omega)]
  rw [ea] at f2 f3
  obtain ⟨g1, g2, g3⟩ := o2.apply f3
  refine ⟨t1, t3, f1, f2, g1, ?_⟩
  rw [g2]
  have e2 : app (units (xf2 (place N A x 0) (place N A y 0))) (t.take A ++ (x ++ t.drop A)) = app (xf (units (place N A x 0)) (units (place N A y 0))).2 (t.take A ++ (x ++ t.drop A)) := (units_grp _).app _
  have np : NoP (ks (N - A)) := by
    cases hn : N - A with
    | zero => exact .inl rfl
    | succ k => exact .inr (.inl ⟨ks k, by rw [ks, List.replicate_succ]⟩)
  have exf : xf (ks (N - A)) (ks (N - A)) = (ks (N - A), ks (N - A)) := by
    have := xf_kk (N - A) [] []
    rw [List.append_nil, xf_nil, List.append_nil] at this
    exact this
  have e3 : (xf (units (place N A x 0)) (units (place N A y 0))).2 = ks A ++ (ks x.length ++ (pus y ++ ks (N - A))) := by
    rw [ux, uy, xf_kk, xf_pus, xf_pus2 _ _ _ np, exf]
  rw [e2, e3]
  have l1 : (t.take A).length = A := by rw [List.length_take]; omega
  rw [app_keeps, List.take_left' l1, List.drop_left' l1, app_keeps, List.take_left' rfl, List.drop_left' rfl, app_puts]
  have := app_keeps (N - A) [] (t.drop A)
  rw [List.append_nil] at this
  rw [this, app, List.append_nil, show (t.drop A).take (N - A) = t.drop A from List.take_of_length_le (by rw [List.length_drop]; omega)]
end Pl
end Go.Proofs.Ytlpjbbmjchfolaa
