/- Plain law of OpText: the words of a normal form. No program in sight. No condition. -/
import Derived.Test.YtookcfpiegbafaaGreatDoorSpans
import Derived.Test.YtookcfpiegbafaaGreatDoorDotted
namespace Go.Proofs.YtookcfpiegbafaaGreatDoor.Pl

/-- The shape of a part of a normal form. -/
def Shp (p : Pt) : Prop := (p.kind = 1 ∧ 0 < p.n ∧ p.signs = []) ∨ (p.kind = 2 ∧ p.n = 0 ∧ p.signs ≠ []) ∨ (p.kind = 3 ∧ 0 < p.n ∧ p.signs = [])
def Bd.shp (b : Bd) : Prop := 0 ≤ b.drop ∧ ∀ p ∈ b.list, Shp p
theorem flushL_shp {b : Bd} (h : b.shp) : ∀ p ∈ flushL b, Shp p := by
  intro p hp
  rw [flushL, List.mem_append, List.mem_append] at hp
  rcases hp with hp | hp | hp
  · exact h.2 p hp
  · split at hp
    · simp at hp
    · rename_i hb
      simp at hp
      subst hp
      exact .inr (.inl ⟨rfl, rfl, hb⟩)
  · split at hp
    · rename_i hb
      simp at hp
      subst hp
      exact .inr (.inr ⟨rfl, hb, rfl⟩)
    · simp at hp
theorem addKeep_shp {l : List Pt} (h : ∀ p ∈ l, Shp p) : ∀ p ∈ addKeep l 1, Shp p := by
  rcases List.eq_nil_or_concat l with rfl | ⟨l, q, rfl⟩
  · intro p hp
    simp [addKeep] at hp
    subst hp
    exact .inl ⟨rfl, by decide, rfl⟩
  · rw [List.concat_eq_append] at h ⊢
    intro p hp
    rw [addKeep_last] at hp
    split at hp
    · rename_i hk
      rcases List.mem_append.1 hp with hp | hp
      · exact h p (by simp [hp])
      · simp at hp
        subst hp
        rcases h q (by simp) with ⟨_, h2, h3⟩ | ⟨h1, _⟩ | ⟨h1, _⟩
        · exact .inl ⟨rfl, by show 0 < q.n + 1; omega, h3⟩
        · omega
        · omega
    · rcases List.mem_append.1 hp with hp | hp
      · exact h p hp
      · simp at hp
        subst hp
        exact .inl ⟨rfl, by decide, rfl⟩
theorem bU_shp {b : Bd} (h : b.shp) (u : U) : (bU b u).shp := by
  rcases u with _ | _ | c
  · show (bKeep b 1).shp
    rw [bKeep, if_neg (by decide)]
    exact ⟨Int.le_refl 0, addKeep_shp (flushL_shp h)⟩
  · exact ⟨by have := h.1; show 0 ≤ b.drop + 1; omega, h.2⟩
  · exact ⟨h.1, h.2⟩
theorem run_shp (us : List U) : ∀ {b : Bd}, b.shp → (run b us).shp := by
  induction us with
  | nil => intro b h; exact h
  | cons u us ih => intro b h; exact ih (bU_shp h u)
theorem grp_shp (us : List U) : ∀ p ∈ grp us, Shp p := flushL_shp (run_shp us ⟨Int.le_refl 0, fun p hp => by simp [Bd.init] at hp⟩)
theorem opNorm_shp (o : List Pt) : ∀ p ∈ opNorm o, Shp p := by
  rw [opNorm]
  split
  · rename_i h
    rw [norm_grp (fun p hp => (fine_of (opOk_partsOk h) p hp).2.1)]
    exact grp_shp _
  · intro p hp; cases hp

/-- The word of a part. -/
def word (p : Pt) : List UInt8 := if p.kind = 1 then 107 :: numText p.n else if p.kind = 3 then 100 :: numText p.n else 112 :: dotted p.signs
theorem word_ne (p : Pt) : word p ≠ [] := by
  unfold word
  split
  · simp
  · split <;> simp
theorem word_length {p : Pt} (h : p.signs.length ≤ 200) : (word p).length ≤ 2201 := by
  have h1 := numText_length p.n
  have h2 := dotted_length p.signs
  unfold word
  split
  · simp; omega
  · split
    · simp; omega
    · simp; omega
def wordsT (ns : List Pt) : List UInt8 := join 32 (ns.map word)
def opText (o : List Pt) : List UInt8 := if opOk o = true then (if opNorm o = [] then [45] else wordsT (opNorm o)) else []
theorem join_ne {c : UInt8} {xs : List (List UInt8)} (h : xs ≠ []) (hw : ∀ x ∈ xs, x ≠ []) : join c xs ≠ [] := by
  cases xs with
  | nil => exact absurd rfl h
  | cons x r =>
    cases r with
    | nil => rw [join]; exact hw x (by simp)
    | cons y r => rw [join]; simp
theorem wordsT_ne {ns : List Pt} (h : ns ≠ []) : wordsT ns ≠ [] := join_ne (by simpa using h) (fun x hx => by
  obtain ⟨p, _, rfl⟩ := List.mem_map.1 hx
  exact word_ne p)
theorem wordsT_length {ns : List Pt} (hf : ∀ p ∈ ns, p.signs.length ≤ 200) : (wordsT ns).length ≤ ns.length * 2202 := by
  have := join_length 32 2201 (ns.map word) (fun x hx => by
    obtain ⟨p, hp, rfl⟩ := List.mem_map.1 hx
    exact word_length (hf p hp))
  rw [List.length_map] at this
  exact this
theorem wordsT_step {ns : List Pt} {k : Nat} (h : k < ns.length) : wordsT (ns.take (k + 1)) = if k = 0 then word (ns.getD k ⟨0, 0, []⟩) else wordsT (ns.take k) ++ 32 :: word (ns.getD k ⟨0, 0, []⟩) := by
  have e : ns[k] = ns.getD k ⟨0, 0, []⟩ := by simp [List.getD, h]
  rw [wordsT, List.take_succ_eq_append_getElem h, List.map_append, List.map_cons, List.map_nil, join_snoc, e]
  by_cases h0 : k = 0
  · subst h0; simp
  · rw [if_neg h0, if_neg (by intro hn; have := congrArg List.length hn; rw [List.length_map, List.length_take, List.length_nil] at this; omega)]; rfl
end Go.Proofs.YtookcfpiegbafaaGreatDoor.Pl
