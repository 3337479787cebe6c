/- Contracts of SignText: numbers in decimal, separated by points. Condition: at most 1048576 numbers; the library's table of powers reads as its initialiser lays it. -/
import Derived.Test.YtookcfpiegbafaaGreatDoorGA
import Derived.Test.YtookcfpiegbafaaGreatDoorGB
import Derived.Test.YtookcfpiegbafaaGreatDoorGC
import Derived.Test.YtookcfpiegbafaaGreatDoorNumText
import Derived.Test.YtookcfpiegbafaaGreatDoorSh3
import Derived.Deep.AppendLies
import Derived.OwnWalk
import Derived.Lib.Join
namespace Go.Proofs.YtookcfpiegbafaaGreatDoor
open Go.RowKit
set_option maxRecDepth 100000

namespace Pl
theorem join_lib (c : UInt8) : ∀ xs : List (List UInt8), join c xs = Lib.join xs [c]
  | [] => rfl
  | [x] => by rw [Lib.join_one]; rfl
  | x :: y :: r => by
    have ih := join_lib c (y :: r)
    rw [Lib.join_cons] at ih
    rw [Lib.join_cons, join, ih]
    simp [Lib.joinTail]
theorem join_snoc (c : UInt8) (xs : List (List UInt8)) (x : List UInt8) : join c (xs ++ [x]) = if xs = [] then x else join c xs ++ c :: x := by
  induction xs with
  | nil => rfl
  | cons y r ih =>
    rw [if_neg (by simp)]
    cases r with
    | nil => rfl
    | cons z r =>
      rw [if_neg (by simp)] at ih
      rw [List.cons_append, join_cons (x := y) (r := z :: r ++ [x]) (by simp), ih, join_cons (x := y) (r := z :: r) (by simp)]
      simp
theorem join_length (c : UInt8) (m : Nat) : ∀ xs : List (List UInt8), (∀ x ∈ xs, x.length ≤ m) → (join c xs).length ≤ xs.length * (m + 1)
  | [], _ => Nat.zero_le _
  | [x], h => by have := h x (by simp); simp [join]; omega
  | x :: y :: r, h => by
    have ih := join_length c m (y :: r) (fun z hz => h z (by simp [hz]))
    have := h x (by simp)
    rw [join, List.length_append, List.length_cons]
    simp only [List.length_cons, Nat.succ_mul] at ih ⊢
    omega
theorem numText_length (n : Int) : (numText n).length ≤ 10 := by
  unfold numText
  split
  · rename_i h
    rw [Lib.decDigits_length]
    have : ∀ k u : Nat, u < 10 ^ (k + 1) → Lib.nDigits u ≤ k + 1 := by
      intro k
      induction k with
      | zero => intro u hu; rw [Lib.nDigits]; split <;> omega
      | succ k ih =>
        intro u hu
        rw [Lib.nDigits]
        split
        · omega
        · have := ih (u / 10) (by rw [Nat.pow_succ] at hu; omega)
          omega
    exact this 9 _ (by omega)
  · simp
def dotted (xs : List Int) : List UInt8 := join 46 (xs.map numText)
theorem dotted_length (xs : List Int) : (dotted xs).length ≤ xs.length * 11 := by
  have := join_length 46 10 (xs.map numText) (fun x hx => by
    obtain ⟨n, _, rfl⟩ := List.mem_map.1 hx
    exact numText_length n)
  rw [List.length_map] at this
  exact this
theorem dotted_step {xs : List Int} {k : Nat} (h : k < xs.length) : dotted (xs.take (k + 1)) = if k = 0 then numText (xs.getD k 0) else dotted (xs.take k) ++ 46 :: numText (xs.getD k 0) := by
  have e : xs[k] = xs.getD k 0 := by simp [List.getD, h]
  rw [dotted, List.take_succ_eq_append_getElem h, List.map_append, List.map_cons, List.map_nil, join_snoc, e]
  by_cases h0 : k = 0
  · subst h0; simp
  · rw [if_neg h0, if_neg (by intro hn; have := congrArg List.length hn; rw [List.length_map, List.length_take, List.length_nil] at this; omega)]; rfl
def signText (xs : List Int) : List UInt8 := if signsOk xs = true then (if xs = [] then [45] else dotted xs) else []
end Pl
theorem SliceStrs.cells {B : Nat} {w : World} {A : Option Addr} {xs : List (List UInt8)} (h : StrsAt B w A xs) (b off : Nat) (hA : A = some ⟨b, off, none⟩) :
    ∀ (j : Nat) x, (xs.map fun l => (⟨l.toArray⟩ : ByteArray))[j]? = some x → w.cell? ⟨b, off + j, none⟩ = some (.string x) := by
  intro j x hx
  have hj : j < xs.length := by
    have := (List.getElem?_eq_some_iff.1 hx).1
    simpa using this
  obtain ⟨b', off', hA', _, hc⟩ := h j hj
  rw [hA] at hA'
  injection hA' with hA'
  injection hA' with h1 h2
  subst h1 h2
  rw [hc]
  simp [hj] at hx
  rw [← hx]
  simp [List.getD, hj]
theorem join_lib (ch : UInt8) (v : Value) (xs : List (List UInt8)) (w : World) (h : SliceStrs w.heap.size w v xs) (hl : (Pl.join ch xs).length ≤ 140737488355328) (hn : xs.length ≤ 140737488355328) :
    Calls Tryz.prog 41 #[v, .string ⟨#[ch]⟩] w fun e w' => e = .returned (strV (Pl.join ch xs)) ∧ Below w.heap.size w w' := by
  obtain ⟨A, c, rfl, hc, hat⟩ := h
  by_cases h0 : xs = []
  · subst h0
    refine (Tryz.strings_Join_none A c ⟨#[ch]⟩ w).mono ?_
    rintro e w' ⟨rfl, rfl⟩
    exact ⟨rfl, Below.refl _ _⟩
  · have hp : 0 < xs.length := List.length_pos_iff.2 h0
    obtain ⟨b, off, rfl, hb, _⟩ := hat 0 hp
    have e1 : (xs.map fun l => (⟨l.toArray⟩ : ByteArray)).map (·.data.toList) = xs := by rw [List.map_map]; exact List.map_id'' (fun _ => rfl) xs
    have hj : Lib.join ((xs.map fun l => (⟨l.toArray⟩ : ByteArray)).map (·.data.toList)) (⟨#[ch]⟩ : ByteArray).data.toList = Pl.join ch xs := by rw [e1, Pl.join_lib]
    have hll : (xs.map fun l => (⟨l.toArray⟩ : ByteArray)).length = xs.length := by simp
    have := Tryz.strings_Join b off c (xs.map fun l => ⟨l.toArray⟩) ⟨#[ch]⟩ w (SliceStrs.cells hat b off rfl) hb (by rw [hll]; exact hn) (by rw [hll]; exact hc.1) (by rw [hj]; exact hl)
    rw [hj, hll] at this
    exact this
set_option maxHeartbeats 1000000 in
theorem dotted_i (B : Nat) (v : Value) (xs : List Int) (w : World) (hB : B ≤ w.heap.size) (h : SliceInts B w v xs) (hl : xs.length ≤ 1048577) (hT : Tab10 w) :
    Calls Tryz.prog 40 #[v] w fun e w' => e = .returned (strV (Pl.dotted xs)) ∧ Below w.heap.size w w' := by
  obtain ⟨j0, hj, hy0, hy1, hy2⟩ := info_parts (show (Tryz.prog.info? 9).map (fun i => (i.zero, i.size, i.bytes)) = some (some (.string ByteArray.empty), 1, 16) by kernel_rfl)
  have HT := Lib.hid hT
  obtain ⟨A, c, rfl, -, h⟩ := h
  have HX := Lib.hid h
  clear hT h
  go_enter Tryz.func40, Tryz.ntmps40
  go_wp2_with (fail)
  go_loopw [3, 8] (fun u i wr => ∃ (k : Nat) (acc : List (List UInt8)), k ≤ xs.length ∧ i = .int .i64 k ∧ Hid (acc = (xs.take k).map Pl.numText) ∧ Hid (wr.ownsRow w.heap.size 9 1 u k (acc.map strV)) ∧ Hid (Below w.heap.size w wr) ∧ w.heap.size ≤ wr.heap.size) (fun _ i _ => xs.length - (intOf i).toNat)
  case atStart => exact ⟨0, [], Nat.zero_le _, rfl, rfl, World.ownsRow_nil _ _ _ _, Below.refl _ _, Nat.le_refl _⟩
  case round =>
    obtain ⟨k, acc, hk, rfl, hacc, hown, hb, hsz⟩ := hrel
    by_cases hlt : k < xs.length
    · obtain ⟨b, off, rfl, hbB, hc⟩ := (HX.out.below (hb.out.mono hB)) k hlt
      have HTK : Hid (acc ++ [Pl.numText (xs.getD k 0)] = (xs.take (k + 1)).map Pl.numText) := by
        show _ = _
        rw [List.take_succ_eq_append_getElem hlt, List.map_append, hacc.out]
        simp [List.getD, hlt]
      generalize xs.getD k 0 = x at hc HTK
      go_wp2_with (fail)
      refine (numText_i x _ (HT.out.later hb.out)).mono ?_
      rintro e w2 ⟨rfl, b2⟩
      have HOWN := Lib.hid (World.ownsRow.below hown.out b2)
      have HB2 := Lib.hid (hb.out.trans (b2.mono hb.out.size))
      have sz2 := b2.size
      clear b2 hown
      obtain ⟨t, ht⟩ : ∃ t : ByteArray, t = ⟨(Pl.numText x).toArray⟩ := ⟨_, rfl⟩
      have HT2 := Lib.hid ht
      rw [← ht]
      clear ht
      go_wp2_with (at_builtin; refine wpList_append_lies _ rfl (.tmp 12) (.tmp 15) 42 rfl w.heap.size 9 j0 _ 1 16 Tryz.underlying42 hj hy0 hy1 hy2 rfl (by decide) _ k _ (by rfl) (HOWN.out.alloc _) ⟨w2.heap.size, 0, none⟩ 1 1 [.string t] (by rfl) rfl (World.news_of_block (cs := #[.string t]) (heap_new_at _ _ (by simp))) (by simp [Value.oneCell']) (by omega) (by unfold maxLen; omega) (by omega) (by simp; omega) (w2.heap.size + 1) (by simp) ?_)
      intro g cap w3 hown3 hg hat hlt3
      have hf : Frame (fun x => u3.ownBlock = some x) w2 w3 := (Frame.alloc _ w2 _).trans (Frame.grown hg fun _ e => e) (fun _ _ hh => hh)
      have hbel : Below w.heap.size w2 w3 := hf.below (fun x hx => (HOWN.out.lt x hx).1) (by omega)
      have sz3 := hf.size
      rw [HT2.out] at hown3
      have HF := Lib.hid hbel
      have HO3 : Hid (w3.ownsRow w.heap.size 9 1 (.slice (some ⟨g, 0, none⟩) (k + 1) cap) (k + 1) ((acc ++ [Pl.numText x]).map strV)) := by rw [List.map_append]; exact hown3
      clear hf hbel hown3 hg hat
      go_wp2_with (fail)
      go_roundw
      case rel => exact ⟨k + 1, _, by omega, by go_num, HTK.out, HO3.out, HB2.out.trans HF.out, by omega⟩
      case measure => simp [intOf]; omega
    · have e : k = xs.length := by omega
      subst e
      have hdl := Pl.dotted_length xs
      have hown' : wr.ownsRow w.heap.size 9 1 u3 xs.length ((xs.map Pl.numText).map strV) := by
        have := hown.out
        have e := hacc.out
        rw [List.take_of_length_le (Nat.le_refl _)] at e
        rw [← e]; exact this
      have hos : OwnStrs w.heap.size wr u3 (xs.map Pl.numText) := by rw [OwnStrs, List.length_map]; exact hown'
      have JL := Lib.hid (join_lib 46 u3 (xs.map Pl.numText) wr (OwnStrs.slice hos) (by rw [← Pl.dotted]; omega) (by rw [List.length_map]; omega))
      clear hown hown' hos
      go_wp2_with (fail)
      refine JL.out.mono ?_
      rintro e w2 ⟨rfl, b2⟩
      go_wp2_with (fail)
      go_ret
      exact ⟨rfl, hb.out.trans (b2.mono hsz)⟩
set_option maxHeartbeats 1000000 in
theorem signText_s (B : Nat) (v : Value) (xs : List Int) (w : World) (hB : B ≤ w.heap.size) (h : SliceInts B w v xs) (hl : xs.length ≤ 1048577) :
    Calls Tryz.prog 56 #[v] w fun e w' => e = .returned (strV (Pl.signText xs)) ∧ Below w.heap.size w w' := by
  have HX := Lib.hid h
  obtain ⟨A, c, rfl, -, h⟩ := h
  have HI := Lib.hid h
  clear h
  by_cases ho : Pl.signsOk xs = true
  · by_cases h0 : xs = []
    · have HP : Hid (Pl.signText xs = [45]) := by show _ = _; rw [Pl.signText, if_pos ho, if_pos h0]
      have hz : ((xs.length : Int) == 0) = true := by rw [h0]; rfl
      clear h0
      go_enter Tryz.func56, Tryz.ntmps56
      go_wp2_with (fail)
      refine (signsOk_s B _ xs _ HX.out (by unfold maxLen; omega)).mono ?_
      rintro e w1 ⟨rfl, rfl⟩
      go_wp2_with (fail)
      go_ret
      exact ⟨by rw [HP.out]; rfl, Below.refl _ _⟩
    · have HP : Hid (Pl.signText xs = Pl.dotted xs) := by show _ = _; rw [Pl.signText, if_pos ho, if_neg h0]
      have hz : ((xs.length : Int) == 0) = false := beq_eq_false_iff_ne.2 (by have := List.length_pos_iff.2 h0; omega)
      clear h0
      go_enter Tryz.func56, Tryz.ntmps56
      go_wp2_with (fail)
      refine (signsOk_s B _ xs _ HX.out (by unfold maxLen; omega)).mono ?_
      rintro e w1 ⟨rfl, rfl⟩
      go_wp2_with (fail)
      have hdl := Pl.dotted_length xs
      go_loopw [3, 14] (fun u i wr => ∃ (k : Nat) (t : ByteArray), k ≤ xs.length ∧ i = .int .i64 k ∧ u = .string t ∧ Hid (t = ⟨(Pl.dotted (xs.take k)).toArray⟩) ∧ Hid (Below w.heap.size w wr) ∧ w.heap.size ≤ wr.heap.size) (fun _ i _ => xs.length - (intOf i).toNat)
      case atStart => exact ⟨0, _, Nat.zero_le _, rfl, rfl, rfl, Below.refl _ _, Nat.le_refl _⟩
      case round =>
        obtain ⟨k, t, hk, rfl, rfl, ht, hb, hsz⟩ := hrel
        have hts : t.size ≤ 12000000 := by
          have h1 := Pl.dotted_length (xs.take k)
          rw [List.length_take] at h1
          rw [ht.out]
          show (Pl.dotted (xs.take k)).toArray.size ≤ _
          rw [List.size_toArray]
          omega
        by_cases hlt : k < xs.length
        · obtain ⟨b, off, rfl, hbB, hc⟩ := (HI.out.below (hb.out.mono hB)) k hlt
          have HD := Lib.hid (Pl.dotted_step hlt)
          generalize xs.getD k 0 = x at hc HD
          have hnl := Pl.numText_length x
          obtain ⟨m, hm⟩ : ∃ m : ByteArray, m = ⟨(Pl.numText x).toArray⟩ := ⟨_, rfl⟩
          have hms : m.size ≤ 10 := by rw [hm]; show (Pl.numText x).toArray.size ≤ _; rw [List.size_toArray]; exact hnl
          have HM := Lib.hid hm
          clear hm
          by_cases hk0 : k = 0
          · have k1 : ¬ ((0 : Int) < (k : Int)) := by omega
            have BA : Hid (t ++ m = ⟨(Pl.dotted (xs.take (k + 1))).toArray⟩) := by
              show _ = _
              rw [HD.out, if_pos hk0, ht.out, HM.out, hk0, List.take_zero]
              exact bytes_app [] _
            clear hk0
            go_wp2_with (fail)
            refine (numText_s x _).mono ?_
            rintro e w2 ⟨rfl, b2⟩
            rw [← HM.out]
            have hlen : ¬ 9223372036854775807 < t.size + m.size := by omega
            go_wp2_with (fail)
            go_roundw
            case rel => exact ⟨k + 1, _, by omega, by go_num, rfl, BA.out, hb.out.trans (b2.mono hsz), Nat.le_trans hsz b2.size⟩
            case measure => simp [intOf]; omega
          · have k1 : (0 : Int) < (k : Int) := by omega
            have BA : Hid ((t ++ ⟨#[46]⟩) ++ m = ⟨(Pl.dotted (xs.take (k + 1))).toArray⟩) := by
              show _ = _
              rw [HD.out, if_neg hk0, ht.out, HM.out]
              have e1 := bytes_app (Pl.dotted (xs.take k)) [46]
              rw [show (⟨#[46]⟩ : ByteArray) = ⟨[46].toArray⟩ from rfl, e1, bytes_app]
              simp
            have hs1 : (t ++ ⟨#[46]⟩ : ByteArray).size = t.size + 1 := by rw [ByteArray.size_append]; rfl
            have hlen1 : ¬ 9223372036854775807 < t.size + 1 := by omega
            clear hk0
            obtain ⟨q, hq⟩ : ∃ q : ByteArray, q = t ++ ⟨#[46]⟩ := ⟨_, rfl⟩
            have HQ := Lib.hid hq
            go_wp2_with (fail)
            refine (numText_s x _).mono ?_
            rintro e w2 ⟨rfl, b2⟩
            rw [← HM.out]
            have hlen : ¬ 9223372036854775807 < q.size + m.size := by rw [hq]; omega
            go_wp2_with (fail)
            go_roundw
            case rel => exact ⟨k + 1, _, by omega, by go_num, rfl, by first | exact BA.out | (show _ = _; rw [HQ.out]; exact BA.out), hb.out.trans (b2.mono hsz), Nat.le_trans hsz b2.size⟩
            case measure => simp [intOf]; omega
        · have e : k = xs.length := by omega
          subst e
          have HX2 : Hid (t = ⟨(Pl.dotted xs).toArray⟩) := by show _ = _; have := ht.out; rw [List.take_of_length_le (Nat.le_refl _)] at this; exact this
          go_wp2_with (fail)
          go_ret
          exact ⟨by rw [HP.out]; exact congrArg (fun x => Ending.returned (Value.string x)) HX2.out, hb.out⟩
  · have HP : Hid (Pl.signText xs = []) := by show _ = _; rw [Pl.signText, if_neg ho]
    have ho : Pl.signsOk xs = false := by simpa using ho
    go_enter Tryz.func56, Tryz.ntmps56
    go_wp2_with (fail)
    refine (signsOk_s B _ xs _ HX.out (by unfold maxLen; omega)).mono ?_
    rintro e w1 ⟨rfl, rfl⟩
    go_wp2_with (fail)
    go_ret
    exact ⟨by rw [HP.out]; rfl, Below.refl _ _⟩
end Go.Proofs.YtookcfpiegbafaaGreatDoor
