/- The plain law of an operation that is led past many. No program in sight. No condition. -/
import Derived.Test.YtlpjbbmjchfolaaLawComp
namespace Go.Proofs.Ytlpjbbmjchfolaa
namespace Pl
def pastOk : List (List Pt) → List Pt → Bool
  | [], _ => true
  | a :: l, v => xfOk a v && pastOk l (trans2 a v)
def pastX : List (List Pt) → List Pt → List (List Pt)
  | [], _ => []
  | a :: l, v => trans1 a v :: pastX l (trans2 a v)
def pastV : List (List Pt) → List Pt → List Pt
  | [], v => v
  | a :: l, v => pastV l (trans2 a v)
theorem pastX_len : ∀ (l : List (List Pt)) (v : List Pt), (pastX l v).length = l.length
  | [], _ => rfl
  | a :: l, v => by simp [pastX, pastX_len l (trans2 a v)]
def putU : U → Bool
  | some (some _) => true
  | _ => false
theorem to_le (us : List U) : to_ us ≤ from_ us + us.countP putU := by
  induction us with
  | nil => simp [to_]
  | cons u us ih => rcases u with _ | _ | c <;> simp [to_, from_, putU, List.countP_cons] <;> omega
theorem puts_le (us : List U) : us.countP putU ≤ to_ us := by
  induction us with
  | nil => simp
  | cons u us ih => rcases u with _ | _ | c <;> simp [to_, putU, List.countP_cons] <;> omega
theorem xf_puts (a b : List U) : (xf a b).2.countP putU ≤ b.countP putU := by
  induction a, b using xf.induct with
  | case1 d a b ih => rw [xf]; simpa [putU, List.countP_cons] using ih
  | case2 d b ih => rw [xf]; simpa [putU, List.countP_cons] using ih
  | case3 a d b ih => rw [xf]; simpa [putU, List.countP_cons] using ih
  | case4 a d b ih => rw [xf]; simpa [putU, List.countP_cons] using ih
  | case5 a b ih => rw [xf]; simpa [putU, List.countP_cons] using ih
  | case6 a b ih => rw [xf]; simpa [putU, List.countP_cons] using ih
  | case7 a b ih => rw [xf]; simpa [putU, List.countP_cons] using ih
  | case8 a b ih => rw [xf]; simpa [putU, List.countP_cons] using ih
  | case9 a b h1 h2 h3 h4 h5 h6 h7 h8 =>
    rcases a with _ | ⟨_ | _ | c, a⟩ <;> rcases b with _ | ⟨_ | _ | d, b⟩
    all_goals first
      | exact (h1 _ _ rfl).elim | exact (h2 _ _ rfl rfl).elim | exact (h3 _ _ _ rfl rfl).elim | exact (h4 _ _ _ rfl rfl).elim | exact (h5 _ _ rfl rfl).elim | exact (h6 _ _ rfl rfl).elim
      | exact (h7 _ _ rfl rfl).elim | exact (h8 _ _ rfl rfl).elim | (simp [xf]; done)
/-- Led past many. -/
theorem past_law {os : List (List Pt)} : ∀ {N M k : Nat} {v : List Pt}, Chain N os M → (∀ o ∈ os, to_ (units o) ≤ 56) → Op v N k → k ≤ 76 → (units v).countP putU ≤ 20 →
    pastOk os v = true ∧ ∃ K, Op (pastV os v) M K ∧ Chain k (pastX os v) K ∧ ∀ t, Tx t N → app (units (pastV os v)) (appL os t) = appL (pastX os v) (app (units v) t) := by
  induction os with
  | nil =>
    intro N M k v h _ hv _ _
    simp only [Chain] at h
    subst h
    exact ⟨rfl, k, hv, rfl, fun _ _ => rfl⟩
  | cons a os ih =>
    intro N M k v h hs hv hk hp
    obtain ⟨j, ha, hj⟩ := h
    have hj56 : j ≤ 56 := by have := hs a (by simp); have := ha.to; omega
    obtain ⟨x1, x2, x3, J, _, x4, x5, _, _, x6⟩ := ha.trans hv (by omega)
    have hc : (units (xf2 a v)).countP putU ≤ 20 := by
      have e : (units (xf2 a v)).countP putU = (xf (units a) (units v)).2.countP putU := (units_grp _).count putU
      have := xf_puts (units a) (units v)
      omega
    have hJ : J ≤ 76 := by
      have := to_le (units (xf2 a v))
      have := x5.to
      have := x5.fr
      omega
    obtain ⟨i1, K, i2, i3, i4⟩ := ih hj (fun o ho => hs o (by simp [ho])) x5 hJ hc
    refine ⟨by rw [pastOk, x1, x3, i1]; rfl, K, by rw [pastV, x3]; exact i2, by rw [pastX, x2, x3]; exact ⟨J, x4, i3⟩, fun t ht => ?_⟩
    obtain ⟨_, _, a3⟩ := ha.apply ht
    rw [pastV, pastX, x2, x3, appL, appL, i4 _ a3, x6 t ht]
end Pl
end Go.Proofs.Ytlpjbbmjchfolaa
