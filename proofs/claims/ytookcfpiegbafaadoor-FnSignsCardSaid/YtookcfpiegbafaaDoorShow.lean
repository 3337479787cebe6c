/- Contracts of Show: the bytes of the characters, what can't be seen as '?'. Condition: at most 4194304 characters. -/
import Derived.Test.YtookcfpiegbafaaDoorCopyInts
import Derived.Test.YtookcfpiegbafaaDoorBytes
namespace Go.Proofs.YtookcfpiegbafaaDoor
open Go.RowKit
set_option maxRecDepth 100000

def Pl.hide (n : Int) : Int := if n < 32 ∨ n = 127 then 63 else n
def Pl.mix (xs : List Int) (k : Nat) : List Int := (xs.take k).map Pl.hide ++ xs.drop k
def Pl.shown (xs : List Int) : List UInt8 := if Pl.signsOk xs = true then Pl.bytes (xs.map Pl.hide) else []
theorem mix_zero (xs : List Int) : Pl.mix xs 0 = xs := by simp [Pl.mix]
theorem mix_all (xs : List Int) : Pl.mix xs xs.length = xs.map Pl.hide := by simp [Pl.mix]
theorem mix_length (xs : List Int) (k : Nat) : (Pl.mix xs k).length = xs.length := by simp [Pl.mix]; omega
theorem mix_at (xs : List Int) (k : Nat) (h : k < xs.length) : (Pl.mix xs k).getD k 0 = xs.getD k 0 := by
  have hl : ((xs.take k).map Pl.hide).length = k := by simp; omega
  simp only [Pl.mix, List.getD]
  rw [List.getElem?_append_right (by omega), hl, Nat.sub_self]
  simp [h]
theorem mix_set (xs : List Int) (k : Nat) (h : k < xs.length) : (Pl.mix xs k).set k (Pl.hide (xs.getD k 0)) = Pl.mix xs (k + 1) := by
  have hl : ((xs.take k).map Pl.hide).length = k := by simp; omega
  rw [Pl.mix, Pl.mix, List.set_append_right _ _ (by omega), hl, Nat.sub_self, List.drop_eq_getElem_cons h, List.set_cons_zero,
    List.take_succ_eq_append_getElem h, List.map_append]
  simp [List.getD, h]
theorem mix_same (xs : List Int) (k : Nat) (h : k < xs.length) (e : Pl.hide (xs.getD k 0) = xs.getD k 0) : Pl.mix xs (k + 1) = Pl.mix xs k := by
  rw [← mix_set xs k h, e]
  apply List.ext_getElem?
  intro j
  rw [List.getElem?_set]
  split
  · rename_i hj
    subst hj
    have h3 : k < (Pl.mix xs k).length := by rw [mix_length]; exact h
    rw [if_pos h3, ← mix_at xs k h]
    simp [List.getD, h3]
  · rfl

set_option maxHeartbeats 1000000 in
theorem show_i (v : Value) (xs : List Int) (w : World) (h : SliceInts w.heap.size w v xs) (hl : xs.length ≤ 4194304) :
    Calls Tryd.prog 42 #[v] w fun e w' => e = .returned (.string ⟨(Pl.shown xs).toArray⟩) ∧ Below w.heap.size w w' := by
  have h0 := h
  obtain ⟨A, c, rfl, -, -⟩ := h
  by_cases hs : Pl.signsOk xs = true
  · go_enter Tryd.func42, Tryd.ntmps42
    go_wp2_with (go_at_call 40; refine (signsOk_i _ _ xs _ h0 (by unfold maxLen; omega)).mono ?_; rintro e w' ⟨rfl, rfl⟩)
    refine (copyInts_i _ xs _ h0 hl).mono ?_
    rintro e w1 ⟨v1, rfl, o1, b1⟩
    have HS := Lib.hid hs
    clear hs h0
    obtain ⟨A1, c1, rfl, -, -⟩ := o1.slice
    obtain ⟨B, hB⟩ : ∃ B, B = w.heap.size := ⟨_, rfl⟩
    have HB := Lib.hid hB
    have o2 : OwnInts B w1 (.slice A1 xs.length c1) (Pl.mix xs 0) := by rw [mix_zero, hB]; exact o1.1
    rw [← hB] at b1
    clear hB o1
    go_wp2
    go_loopw [13] (fun i wr => ∃ k : Nat, k ≤ xs.length ∧ i = .int .i64 k ∧ wr.ownsRow B 3 1 (.slice A1 xs.length c1) xs.length ((Pl.mix xs k).map (Value.int .i64)) ∧ Below B w wr) (fun i _ => xs.length - (intOf i).toNat)
    case atStart => exact ⟨0, Nat.zero_le _, rfl, by have := o2; rw [OwnInts, mix_length] at this; exact this, b1⟩
    case round =>
      clear o2 b1
      obtain ⟨k, hk, rfl, hown, hb⟩ := hrel
      by_cases hlt : k < xs.length
      · obtain ⟨g, cap, hv, hBg, _⟩ := hown.form (by omega)
        injection hv with hA _ hc
        subst hA hc
        have hcur := hown.cellAt k (by omega)
        have hfz := hown.frozenAt k
        have hst := Lib.hid (hown.stored k (.int .i64 63))
        have HM := Lib.hid (mix_set xs k hlt)
        have HN := Lib.hid (mix_same xs k hlt)
        have hat := mix_at xs k hlt
        have hml := mix_length xs k
        have Hb := Lib.hid hb
        have Ho := Lib.hid hown
        obtain ⟨x, hx⟩ : ∃ x, x = xs.getD k 0 := ⟨_, rfl⟩
        have hcx : wr.cell? ⟨g, k, none⟩ = some (.int .i64 x) := by
          rw [hcur, List.getElem?_map, hx, ← hat]
          simp [List.getD, show k < (Pl.mix xs k).length by omega]
        rw [← hx] at HM HN
        clear hx hat hml hcur hown hb
        by_cases hh : x < 32 ∨ x = 127
        · have HX : Hid (Pl.hide x = 63) := by show _ = _; rw [Pl.hide, if_pos hh]
          rcases hh with hh | hh
          · go_wp2
            go_roundw
            case rel => exact ⟨k + 1, by omega, by go_num, by have := hst.out.1; rw [← HM.out, HX.out, List.map_set]; exact this, Hb.out.setCell (by simpa using hBg) _⟩
            case measure => simp [intOf]; omega
          · have h1 : (x == 127) = true := by simp [hh]
            have h2 : 32 ≤ x := by omega
            clear hh
            go_wp2
            go_roundw
            case rel => exact ⟨k + 1, by omega, by go_num, by have := hst.out.1; rw [← HM.out, HX.out, List.map_set]; exact this, Hb.out.setCell (by simpa using hBg) _⟩
            case measure => simp [intOf]; omega
        · have HX : Hid (Pl.hide x = x) := by show _ = _; rw [Pl.hide, if_neg hh]
          have h1 : (x == 127) = false := by simp; omega
          have h2 : 32 ≤ x := by omega
          clear hh
          go_wp2
          go_roundw
          case rel => exact ⟨k + 1, by omega, by go_num, by rw [HN.out HX.out]; exact Ho.out, Hb.out⟩
          case measure => simp [intOf]; omega
      · have e : k = xs.length := by omega
        subst e
        rw [mix_all] at hown
        have ho : OwnInts B wr (.slice A1 xs.length c1) (xs.map Pl.hide) := by rw [OwnInts, List.length_map]; exact hown
        clear hown
        go_wp2_with (go_at_call 37; refine (bytes_i _ (xs.map Pl.hide) _ (OwnInts.slice ho) (by simpa using hl)).mono ?_; rintro e w2 ⟨rfl, b2⟩)
        go_ret
        refine ⟨ret_str ?_, ?_⟩
        · rw [Pl.shown, if_pos HS.out]
        · have := hb.size
          rw [HB.out] at hb
          exact hb.trans (b2.mono (by have := hb.size; omega))
  · have hs' : Pl.signsOk xs = false := by simpa using hs
    clear hs
    go_enter Tryd.func42, Tryd.ntmps42
    go_wp2_with (go_at_call 40; refine (signsOk_i _ _ xs _ h0 (by unfold maxLen; omega)).mono ?_; rintro e w' ⟨rfl, rfl⟩)
    go_ret
    exact ⟨ret_str (by rw [Pl.shown, if_neg (by rw [hs']; decide)]), Below.refl _ _⟩
end Go.Proofs.YtookcfpiegbafaaDoor
