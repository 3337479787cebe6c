/- Plain law: what Bytes writes, Signs reads. No program in sight. No condition. -/
import Derived.Test.YtookcfpiegbafaaDoorSignsPl
namespace Go.Proofs.YtookcfpiegbafaaDoor.Pl
open Go.Lib (decodeN decodeL validD encodeRune)
set_option maxRecDepth 100000

theorem b8 {k : Nat} (h : k < 256) : (UInt8.ofNat k).toNat = k := by simp; omega
theorem enc1 {m : Nat} (h : m ≤ 127) : encodeRune (m : Int) = [UInt8.ofNat m] := by
  rw [encodeRune, Lib.encodeRuneZ_one (by omega) (by omega)]; rfl
theorem enc2 {m : Nat} (h : 128 ≤ m) (h' : m ≤ 2047) : encodeRune (m : Int) = [UInt8.ofNat (192 + m / 64), UInt8.ofNat (128 + m % 64)] := by
  rw [encodeRune, Lib.encodeRuneZ_two (by omega) (by omega), List.map_cons, List.map_cons, List.map_nil, show (192 + (m : Int) / 64).toNat = 192 + m / 64 by omega, show (128 + (m : Int) % 64).toNat = 128 + m % 64 by omega]
theorem enc3 {m : Nat} (h : (2048 ≤ m ∧ m < 55296) ∨ (57343 < m ∧ m ≤ 65535)) : encodeRune (m : Int) = [UInt8.ofNat (224 + m / 4096), UInt8.ofNat (128 + m / 64 % 64), UInt8.ofNat (128 + m % 64)] := by
  rw [encodeRune, Lib.encodeRuneZ_three (by omega), List.map_cons, List.map_cons, List.map_cons, List.map_nil, show (224 + (m : Int) / 4096).toNat = 224 + m / 4096 by omega, show (128 + (m : Int) / 64 % 64).toNat = 128 + m / 64 % 64 by omega, show (128 + (m : Int) % 64).toNat = 128 + m % 64 by omega]
theorem enc4 {m : Nat} (h : 65536 ≤ m) (h' : m ≤ 1114111) : encodeRune (m : Int) = [UInt8.ofNat (240 + m / 262144), UInt8.ofNat (128 + m / 4096 % 64), UInt8.ofNat (128 + m / 64 % 64), UInt8.ofNat (128 + m % 64)] := by
  rw [encodeRune, Lib.encodeRuneZ_four (by omega) (by omega), List.map_cons, List.map_cons, List.map_cons, List.map_cons, List.map_nil, show (240 + (m : Int) / 262144).toNat = 240 + m / 262144 by omega, show (128 + (m : Int) / 4096 % 64).toNat = 128 + m / 4096 % 64 by omega, show (128 + (m : Int) / 64 % 64).toNat = 128 + m / 64 % 64 by omega, show (128 + (m : Int) % 64).toNat = 128 + m % 64 by omega]
theorem dN1 {n b0 b1 b2 b3 : Nat} (h : b0 < 128) : decodeN n b0 b1 b2 b3 = (b0, 1) := by unfold decodeN; rw [if_pos h]
theorem dN2 {n m b2 b3 : Nat} (hn : 1 < n) (h : 128 ≤ m) (h' : m ≤ 2047) : decodeN n (192 + m / 64) (128 + m % 64) b2 b3 = (m, 2) := by
  unfold decodeN
  rw [if_neg (by omega), if_pos (by omega), if_pos (by omega)]
  exact Prod.ext (by show _ = m; omega) rfl
theorem dN3 {n m b3 : Nat} (hn : 2 < n) (h : (2048 ≤ m ∧ m < 55296) ∨ (57343 < m ∧ m ≤ 65535)) : decodeN n (224 + m / 4096) (128 + m / 64 % 64) (128 + m % 64) b3 = (m, 3) := by
  have e : (224 + m / 4096) % 16 * 4096 + (128 + m / 64 % 64) % 64 * 64 + (128 + m % 64) % 64 = m := by omega
  unfold decodeN
  rw [if_neg (by omega), if_neg (by omega), if_pos (by omega), e, if_pos (by omega)]
theorem dN4 {n m : Nat} (hn : 3 < n) (h : 65536 ≤ m) (h' : m ≤ 1114111) : decodeN n (240 + m / 262144) (128 + m / 4096 % 64) (128 + m / 64 % 64) (128 + m % 64) = (m, 4) := by
  have e : (240 + m / 262144) % 8 * 262144 + (128 + m / 4096 % 64) % 64 * 4096 + (128 + m / 64 % 64) % 64 * 64 + (128 + m % 64) % 64 = m := by omega
  unfold decodeN
  rw [if_neg (by omega), if_neg (by omega), if_neg (by omega), if_pos (by omega), e, if_pos (by omega)]
theorem dec_enc {m : Nat} (h : m ≤ 1114111) (hs : ¬ (55296 ≤ m ∧ m ≤ 57343)) (l : List UInt8) : decodeL (encodeRune (m : Int) ++ l) = (m, (encodeRune (m : Int)).length) ∧ (m = 65533 → (encodeRune (m : Int)).length ≠ 1) := by
  rw [Lib.decodeL_N]
  rcases (show m ≤ 127 ∨ (128 ≤ m ∧ m ≤ 2047) ∨ ((2048 ≤ m ∧ m < 55296) ∨ (57343 < m ∧ m ≤ 65535)) ∨ 65536 ≤ m by omega) with c | ⟨c, d⟩ | c | c
  · rw [enc1 c]
    refine ⟨?_, fun e => by omega⟩
    show decodeN _ (UInt8.ofNat m).toNat _ _ _ = _
    rw [b8 (by omega), dN1 (by omega)]; rfl
  · rw [enc2 c d]
    refine ⟨?_, fun e => by simp⟩
    show decodeN (l.length + 1 + 1) (UInt8.ofNat (192 + m / 64)).toNat (UInt8.ofNat (128 + m % 64)).toNat _ _ = _
    rw [b8 (by omega), b8 (by omega), dN2 (by omega) c d]; rfl
  · rw [enc3 c]
    refine ⟨?_, fun e => by simp⟩
    show decodeN (l.length + 1 + 1 + 1) (UInt8.ofNat (224 + m / 4096)).toNat (UInt8.ofNat (128 + m / 64 % 64)).toNat (UInt8.ofNat (128 + m % 64)).toNat _ = _
    rw [b8 (by omega), b8 (by omega), b8 (by omega), dN3 (by omega) c]; rfl
  · rw [enc4 c h]
    refine ⟨?_, fun e => by simp⟩
    show decodeN (l.length + 1 + 1 + 1 + 1) (UInt8.ofNat (240 + m / 262144)).toNat (UInt8.ofNat (128 + m / 4096 % 64)).toNat (UInt8.ofNat (128 + m / 64 % 64)).toNat (UInt8.ofNat (128 + m % 64)).toNat = _
    rw [b8 (by omega), b8 (by omega), b8 (by omega), b8 (by omega), dN4 (by omega) c h]; rfl
theorem enc_ne (c : Int) (l : List UInt8) : encodeRune c ++ l ≠ [] := by
  intro e
  have := congrArg List.length e
  have h := (Lib.encodeRuneZ_length c).1
  rw [List.length_append, encodeRune, List.length_map, List.length_nil] at this
  omega
theorem round : ∀ xs : List Int, signsOk xs = true → sg (enc xs) = xs ∧ validD (enc xs) = true
  | [], _ => ⟨rfl, rfl⟩
  | c :: xs, h => by
    rw [signsOk, List.all_cons, Bool.and_eq_true] at h
    obtain ⟨i1, i2⟩ := round xs h.2
    obtain ⟨c0, c1, c2⟩ := (signOk_iff c).1 h.1
    obtain ⟨m, rfl⟩ : ∃ m : Nat, c = m := ⟨c.toNat, by omega⟩
    obtain ⟨d1, d2⟩ := dec_enc (m := m) (by omega) (by omega) (enc xs)
    have e : enc ((m : Int) :: xs) = encodeRune (m : Int) ++ enc xs := by simp [enc]
    rw [e, sg_step _ (enc_ne _ _), Lib.validD_step _ (enc_ne _ _), d1]
    simp only [List.drop_left]
    refine ⟨by rw [i1], ?_⟩
    rw [if_neg (fun hh => d2 hh.1 hh.2), i2]
theorem round_bytes {xs : List Int} (h : signsOk xs = true) : signsV (bytes xs) = xs ∧ validD (bytes xs) = true := by
  obtain ⟨h1, h2⟩ := round xs h
  rw [bytes, if_pos h]
  exact ⟨by rw [signsV, if_pos h2, h1], h2⟩
end Go.Proofs.YtookcfpiegbafaaDoor.Pl
