/- Contracts of Bytes: the UTF-8 form of a list of characters. Condition: at most 4194304 characters. -/
import Derived.Test.YtookcfpiegbafaaDoorPut
import Derived.Test.YtookcfpiegbafaaDoorToInts
import Derived.Laws.IdiomStrings
namespace Go.Proofs.YtookcfpiegbafaaDoor
open Go.RowKit
set_option maxRecDepth 100000

def Pl.enc (xs : List Int) : List UInt8 := xs.flatMap Lib.encodeRune
def Pl.bytes (xs : List Int) : List UInt8 := if Pl.signsOk xs = true then Pl.enc xs else []
def Pl.encCells (xs : List Int) : List Value := xs.flatMap Lib.runeCells
theorem encCells_eq (xs : List Int) : Pl.encCells xs = (Pl.enc xs).map fun b => Value.int .u8 (b.toNat : Int) := by
  induction xs with
  | nil => rfl
  | cons x xs ih =>
    simp only [Pl.encCells, Pl.enc, List.flatMap_cons, List.map_append] at ih ⊢
    rw [ih, ← Lib.byteCells_encodeRune]
    rfl
theorem encCells_take (xs : List Int) (k : Nat) (h : k < xs.length) : Pl.encCells (xs.take (k + 1)) = Pl.encCells (xs.take k) ++ Lib.runeCells (xs.getD k 0) := by
  rw [List.take_succ_eq_append_getElem h, Pl.encCells, List.flatMap_append]
  simp [Pl.encCells, List.getD, h]
theorem signOk_of {xs : List Int} {k : Nat} (h : k < xs.length) (hs : Pl.signsOk xs = true) : Pl.signOk (xs.getD k 0) = true := by
  have := List.all_eq_true.1 hs xs[k] (List.getElem_mem h)
  simpa [List.getD, h] using this
theorem signOk_iff (n : Int) : Pl.signOk n = true ↔ 0 ≤ n ∧ n ≤ 1114111 ∧ ¬ (55296 ≤ n ∧ n ≤ 57343) := by
  simp [Pl.signOk]; omega
theorem string_of_row {B : Nat} {w : World} {v : Value} {n : Nat} {l : List UInt8} (h : w.ownsRow B 5 1 v n (l.map fun b => Value.int .u8 (b.toNat : Int))) :
    (Go.convert 46 9 v).run Tryd.prog w = .ok (.string ⟨l.toArray⟩) w := by
  have hn : l.length = n := by have := h.1; simpa using this
  have hcell := @World.ownsRow.cells w B 5 1 v n _ h
  rcases h.2 with ⟨rfl, h0⟩ | ⟨g, cap, cur, rfl, _⟩
  · obtain rfl := h0
    have : l = [] := List.eq_nil_of_length_eq_zero hn
    subst this
    rw [run_convert_bytes_string w 46 9 5 none 0 0 Tryd.underlying46 Tryd.underlying5 Tryd.underlying9]
    simp [Conv.bytesToString]
    rfl
  · subst hn
    exact run_convert_bytes_back w 46 9 5 ⟨g, 0, none⟩ cap l Tryd.underlying46 Tryd.underlying5 Tryd.underlying9
      fun j hj => hcell (g := g) rfl j _ (by simp [hj])

set_option maxHeartbeats 1000000 in
theorem bytes_i (v : Value) (xs : List Int) (w : World) (h : SliceInts w.heap.size w v xs) (hl : xs.length ≤ 4194304) :
    Calls Tryd.prog 37 #[v] w fun e w' => e = .returned (.string ⟨(Pl.bytes xs).toArray⟩) ∧ Below w.heap.size w w' := by
  have h0 := h
  obtain ⟨A, c, rfl, -, hi⟩ := h
  by_cases hs : Pl.signsOk xs = true
  · go_enter Tryd.func37, Tryd.ntmps37
    go_wp2_with (go_at_call 40; refine (signsOk_i _ _ xs _ h0 (by unfold maxLen; omega)).mono ?_; rintro e w' ⟨rfl, rfl⟩)
    clear h0
    have HS := Lib.hid hs
    clear hs
    obtain ⟨B, hB⟩ : ∃ B, B = w.heap.size := ⟨_, rfl⟩
    have HB := Lib.hid hB
    rw [← hB] at hi
    clear hB
    go_loopw [3, 11] (fun v i wr => ∃ k n : Nat, k ≤ xs.length ∧ i = .int .i64 k ∧ n ≤ 4 * k ∧ wr.ownsRow B 5 1 v n (Pl.encCells (xs.take k)) ∧ Below B w wr ∧ IntsAt B wr A xs ∧ B ≤ wr.heap.size) (fun _ i _ => xs.length - (intOf i).toNat)
    case atStart => exact ⟨0, 0, Nat.zero_le _, rfl, Nat.le_refl _, World.ownsRow_nil _ _ _ _, Below.refl _ _, hi, by rw [HB.out]; exact Nat.le_refl _⟩
    case round =>
      clear hi
      obtain ⟨k, n, hk, rfl, hn, hown, hb, hr, hsz⟩ := hrel
      by_cases hlt : k < xs.length
      · obtain ⟨b, off, rfl, hbB, hc⟩ := hr k hlt
        have hx := (signOk_iff _).1 (signOk_of hlt HS.out)
        have HE := Lib.hid (encCells_take xs k hlt)
        have Hr := Lib.hid hr
        have Hb := Lib.hid hb
        have Ho := Lib.hid hown
        clear hr hb hown
        generalize xs.getD k 0 = x at hc hx HE
        obtain ⟨hx0, hx1, hx2⟩ := hx
        have HX := Lib.hid hx2
        clear hx2
        go_wp2_with (go_at_call 65; refine (appendRune_lib B _ n _ x _ hx0 hx1 HX.out Ho.out (by omega) hsz).mono ?_; rintro e w1 ⟨v1, rfl, k1, o, k2⟩)
        have hb1 : Below B wr w1 := ((Below.refl B wr).alloc hsz o).grown k2 (by simp; omega) (fun g hg => (Ho.out.lt g hg).1)
        have hle := Lib.runeCells_le x
        go_roundw
        case rel => exact ⟨k + 1, n + (Lib.runeCells x).length, by omega, by go_num, by omega, by rw [HE.out]; exact k1, Hb.out.trans hb1, Hr.out.below hb1, Nat.le_trans hsz hb1.size⟩
        case measure => simp [intOf]; omega
      · rw [List.take_of_length_le (by omega), encCells_eq] at hown
        have hcv := string_of_row hown
        clear hown hr
        go_wp2
        go_ret
        refine ⟨ret_str ?_, by rw [← HB.out]; exact hb⟩
        rw [Pl.bytes, if_pos HS.out]
  · have hs' : Pl.signsOk xs = false := by simpa using hs
    clear hs
    go_enter Tryd.func37, Tryd.ntmps37
    go_wp2_with (go_at_call 40; refine (signsOk_i _ _ xs _ h0 (by unfold maxLen; omega)).mono ?_; rintro e w' ⟨rfl, rfl⟩)
    go_ret
    exact ⟨ret_str (by rw [Pl.bytes, if_neg (by rw [hs']; decide)]), Below.refl _ _⟩
end Go.Proofs.YtookcfpiegbafaaDoor
