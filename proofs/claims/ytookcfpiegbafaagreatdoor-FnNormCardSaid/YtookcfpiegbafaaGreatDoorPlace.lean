/- Contracts of PutAt and DropAt. Condition: none longer than any slice can be. -/
import Derived.Test.YtookcfpiegbafaaGreatDoorIsNorm
namespace Go.Proofs.YtookcfpiegbafaaGreatDoor
open Go.RowKit
set_option maxRecDepth 100000

namespace Pl
/-- The operation on n characters that puts l at a place and drops many behind it. -/
def placeO (n a : Int) (l : List Int) (many : Int) : List Pt := [⟨1, a, []⟩, ⟨2, 0, l⟩, ⟨3, many, []⟩, ⟨1, n - a - many, []⟩]
def placeOk (n a : Int) (l : List Int) (many : Int) : Bool := (decide (0 ≤ a ∧ a ≤ n ∧ 0 ≤ many ∧ many ≤ n - a)) && opOk (placeO n a l many)
def place (n a : Int) (l : List Int) (many : Int) : List Pt := if placeOk n a l many = true then norm (placeO n a l many) else []
def putO (n a : Int) (l : List Int) : List Pt := [⟨1, a, []⟩, ⟨2, 0, l⟩, ⟨1, n - a, []⟩]
def dropO (n a many : Int) : List Pt := [⟨1, a, []⟩, ⟨3, many, []⟩, ⟨1, n - a - many, []⟩]
/-- A short list of parts is right as its parts and its units say. -/
theorem opOk_short {o : List Pt} (hl : o.length ≤ 600) : opOk o = true ↔ (∀ p ∈ o, partOk p = true) ∧ keeps o + drops o ≤ 200 ∧ keeps o + puts o ≤ 200 := by
  unfold opOk opFrom opTo
  have e : partsOk o = true ↔ ∀ p ∈ o, partOk p = true := ⟨fun h => (partsOk_all h).1, fun h => partsOk_of h hl⟩
  by_cases h : partsOk o = true
  · simp only [h, if_true, Bool.true_and, Bool.and_eq_true, decide_eq_true_eq]
    have := e.1 h
    exact ⟨fun k => And.intro this k, fun k => And.right k⟩
  · have h' : partsOk o = false := by simpa using h
    simp only [h', Bool.false_and]
    exact ⟨(fun k => by cases k), (fun k => absurd (e.2 k.1) h)⟩
theorem putO_ok (n a : Int) (l : List Int) : opOk (putO n a l) = opOk (placeO n a l 0) := by
  have h0 : partOk ⟨3, 0, []⟩ = true := by decide
  have k1 : keeps (putO n a l) = keeps (placeO n a l 0) := by simp [putO, placeO, keeps, keepsP]
  have k2 : drops (putO n a l) = drops (placeO n a l 0) := by simp [putO, placeO, drops, dropsP]
  have k3 : puts (putO n a l) = puts (placeO n a l 0) := by simp [putO, placeO, puts, putsP]
  have k4 : (∀ p ∈ putO n a l, partOk p = true) ↔ ∀ p ∈ placeO n a l 0, partOk p = true := by simp [putO, placeO, h0]
  rw [Bool.eq_iff_iff, opOk_short (by simp [putO]), opOk_short (by simp [placeO]), k1, k2, k3, k4]
theorem dropO_ok (n a many : Int) : opOk (dropO n a many) = opOk (placeO n a [] many) := by
  have h0 : partOk ⟨2, 0, []⟩ = true := by decide
  have k1 : keeps (dropO n a many) = keeps (placeO n a [] many) := by simp [dropO, placeO, keeps, keepsP]
  have k2 : drops (dropO n a many) = drops (placeO n a [] many) := by simp [dropO, placeO, drops, dropsP]
  have k3 : puts (dropO n a many) = puts (placeO n a [] many) := by simp [dropO, placeO, puts, putsP]
  have k4 : (∀ p ∈ dropO n a many, partOk p = true) ↔ ∀ p ∈ placeO n a [] many, partOk p = true := by simp [dropO, placeO, h0]
  rw [Bool.eq_iff_iff, opOk_short (by simp [dropO]), opOk_short (by simp [placeO]), k1, k2, k3, k4]
theorem putO_norm (n a : Int) (l : List Int) : norm (putO n a l) = norm (placeO n a l 0) := by
  simp [norm, putO, placeO, bPart, bDrop]
theorem dropO_norm (n a many : Int) : norm (dropO n a many) = norm (placeO n a [] many) := by
  simp [norm, dropO, placeO, bPart, bPut]
/-- The reference's own test. -/
theorem placeOk_iff (n a : Int) (l : List Int) (many : Int) : placeOk n a l many = true ↔
    (0 ≤ n ∧ n ≤ 200) ∧ (0 ≤ a ∧ a ≤ n) ∧ (0 ≤ many ∧ many ≤ n - a) ∧ signsOk l = true ∧ l.length ≤ 200 ∧ opOk (norm (placeO n a l many)) = true := by
  unfold placeOk
  rw [Bool.and_eq_true, decide_eq_true_eq]
  have hk : keeps (placeO n a l many) = n - many ∧ drops (placeO n a l many) = many ∧ puts (placeO n a l many) = l.length := by
    refine ⟨?_, ?_, ?_⟩
    · simp [placeO, keeps, keepsP]; omega
    · simp [placeO, drops, dropsP]
    · simp [placeO, puts, putsP]
  constructor
  · rintro ⟨⟨h1, h2, h3, h4⟩, h5⟩
    have h6 := (opOk_short (o := placeO n a l many) (by simp [placeO])).1 h5
    obtain ⟨h7, h8, h9⟩ := h6
    have h10 := partOk_cases (h7 ⟨2, 0, l⟩ (by simp [placeO]))
    simp at h10
    exact ⟨⟨by omega, by omega⟩, ⟨h1, h2⟩, ⟨h3, h4⟩, h10.2, h10.1, opOk_norm h5⟩
  · rintro ⟨⟨h1, h2⟩, ⟨h3, h4⟩, ⟨h5, h6⟩, h7, h8, h9⟩
    refine ⟨⟨h3, h4, h5, h6⟩, (opOk_short (o := placeO n a l many) (by simp [placeO])).2 ⟨?_, ?_, ?_⟩⟩
    · intro p hp
      simp only [placeO, List.mem_cons, List.not_mem_nil, or_false] at hp
      rcases hp with rfl | rfl | rfl | rfl
      · exact partOk_of (.inl ⟨rfl, h3, by show a ≤ 200; omega, rfl⟩)
      · exact partOk_of (.inr (.inr ⟨rfl, rfl, h8, h7⟩))
      · exact partOk_of (.inr (.inl ⟨rfl, h5, by show many ≤ 200; omega, rfl⟩))
      · exact partOk_of (.inl ⟨rfl, by show 0 ≤ n - a - many; omega, by show n - a - many ≤ 200; omega, rfl⟩)
    · omega
    · have hpo : ∀ p ∈ placeO n a l many, 0 ≤ p.n := by
        intro p hp
        simp only [placeO, List.mem_cons, List.not_mem_nil, or_false] at hp
        rcases hp with rfl | rfl | rfl | rfl
        · exact h3
        · exact Int.le_refl 0
        · exact h5
        · show 0 ≤ n - a - many; omega
      obtain ⟨_, _, _, _, k2⟩ := opOk_units h9
      rw [norm_grp hpo] at k2
      rw [(units_grp _).to_] at k2
      have hp2 : ∀ p ∈ placeO n a l many, partOk p = true := by
        intro p hp
        simp only [placeO, List.mem_cons, List.not_mem_nil, or_false] at hp
        rcases hp with rfl | rfl | rfl | rfl
        · exact partOk_of (.inl ⟨rfl, h3, by show a ≤ 200; omega, rfl⟩)
        · exact partOk_of (.inr (.inr ⟨rfl, rfl, h8, h7⟩))
        · exact partOk_of (.inr (.inl ⟨rfl, h5, by show many ≤ 200; omega, rfl⟩))
        · exact partOk_of (.inl ⟨rfl, by show 0 ≤ n - a - many; omega, by show n - a - many ≤ 200; omega, rfl⟩)
      have := (okParts_units hp2).2
      omega
end Pl
end Go.Proofs.YtookcfpiegbafaaGreatDoor
