/-
  The function that finds a kept reply (a closure), the long string, the answer of the servers, and the tests of lengths of the input.
-/
import Derived.Test.YtaglidlibocgpaaB
import Derived.Test.YtaglidlibocgpaaM
namespace Go.Proofs.Ytaglidlibocgpaa
open Go.RowKit

set_option maxRecDepth 100000 in
set_option maxHeartbeats 400000 in
theorem of_any (sb mb : Nat) (c : Int) (a : Option Addr) (n cap : Nat) (w : World) (hc : w.cell? ⟨sb, 2, none⟩ = some (.map (some mb)))
    (hl : (Instr.lookup 69 (.map (some mb)) (.int .i64 c) false).run Try.prog w = .ok (.slice a n cap) w) :
    Calls Try.prog 26 #[.pointer (some ⟨sb, 0, none⟩), .int .i64 c] w fun e w' => e = .returned (.func (.func 36) #[] #[.pointer (some ⟨w.heap.size, 0, none⟩)]) ∧ w.alloc (.cells #[.slice a n cap] 47) = w' := by
  go_enter Try.func26, Try.ntmps26
  go_wp2
  go_ret
  exact ⟨rfl, rfl⟩

set_option maxRecDepth 100000 in
set_option maxHeartbeats 400000 in
theorem find_any (B : Nat) (l : List Rq) (n : Int) (a : Option Addr) (cap : Nat) (w : World) (hc : w.cell? ⟨B, 0, none⟩ = some (.slice a l.length cap))
    (hr : Reads w (.slice a l.length cap) l.length 3 (rqs l)) (ha : Asc l) (h1 : 1 ≤ n) (h2 : n ≤ 9223372036854775807) (hlen : l.length ≤ 1000) :
    Calls Try.prog 36 #[.int .i64 n, .pointer (some ⟨B, 0, none⟩)] w (Searched l n w) := by
  go_enter Try.func36, Try.ntmps36
  have HR := hid hr
  clear hr
  go_wp2_with (go_at_call 37; refine (bsearch_any l n _ _ _ HR.out ha h1 h2 hlen).mono ?_; rintro e w1 ⟨i, hi, rfl, hb1⟩)
  go_ret2
  exact ⟨i, hi, rfl, hb1⟩

/-- The string that is too long. -/
def dbl (s : List UInt8) : List UInt8 := s ++ s
def eight : List UInt8 := [97, 98, 99, 100, 101, 102, 103, 104]
def times : Nat → List UInt8
  | 0 => eight
  | n + 1 => dbl (times n)
theorem times_length (n : Nat) : (times n).length = 8 * 2 ^ n := by
  induction n with
  | zero => rfl
  | succ n ih => simp [times, dbl, ih, Nat.pow_succ]; omega
def longS : ByteArray := ⟨(times 9).toArray⟩
theorem longS_size : longS.size = 4096 := by
  show (times 9).toArray.size = 4096
  rw [List.size_toArray, times_length]

theorem times_size (k : Nat) : (⟨(times k).toArray⟩ : ByteArray).size = 8 * 2 ^ k := by
  show (times k).toArray.size = _
  rw [List.size_toArray, times_length]
theorem times_le (k : Nat) (h : k < 9) : (⟨(times k).toArray⟩ : ByteArray).size ≤ 2048 := by
  rw [times_size]
  have : 2 ^ k ≤ 2 ^ 8 := Nat.pow_le_pow_right (by omega) (by omega)
  omega
theorem bytes_mk_append (a b : List UInt8) : (⟨a.toArray⟩ : ByteArray) ++ ⟨b.toArray⟩ = ⟨(a ++ b).toArray⟩ := by
  apply ByteArray.ext
  simp

set_option maxRecDepth 100000 in
set_option maxHeartbeats 400000 in
theorem long_any (w : World) : Calls Try.prog 29 #[] w fun e w' => e = .returned (.string longS) ∧ w = w' := by
  go_enter Try.func29, Try.ntmps29
  go_wp2_with fail
  go_loopg [1] 10 (fun g s wr => ∃ k : Nat, k ≤ 9 ∧ s = .string ⟨(times k).toArray⟩ ∧ 9 - k < g ∧ w = wr)
  case atStart => exact ⟨0, by omega, rfl, by omega, rfl⟩
  case round =>
    obtain ⟨k, hk, rfl, hg, rfl⟩ := hrel
    by_cases h9 : k < 9
    · have hle := times_le k h9
      have hnx : (⟨(times k).toArray⟩ : ByteArray) ++ ⟨(times k).toArray⟩ = ⟨(times (k + 1)).toArray⟩ := bytes_mk_append _ _
      have HN := hid hnx
      clear hnx
      obtain ⟨T, hT⟩ : ∃ T : ByteArray, T = ⟨(times k).toArray⟩ := ⟨_, rfl⟩
      rw [← hT] at hle HN ⊢
      clear hT
      go_wp2_with fail
      go_roundg (gk - 1)
      case measure => omega
      case rel => exact ⟨k + 1, by omega, by rw [HN.out], by omega, rfl⟩
    · have hk9 : k = 9 := by omega
      subst hk9
      have hle : 4000 < longS.size := by rw [longS_size]; omega
      obtain ⟨L, hL⟩ : ∃ L : ByteArray, L = ⟨(times 9).toArray⟩ := ⟨_, rfl⟩
      rw [← hL]
      have hle' : 4000 < L.size := by rw [hL]; exact hle
      have HL : Hid (L = longS) := hid hL
      clear hL hle
      go_wp2_with fail
      go_ret
      exact ⟨by rw [← HL.out]; rfl, rfl⟩

theorem toList_inj {a b : ByteArray} (h : a.toList = b.toList) : a = b := by
  rw [ByteArray.toList_eq, ByteArray.toList_eq] at h
  exact WideShapes.bytes_inj h
theorem four_ne (s : ByteArray) (h : s ≠ ⟨#[108, 111, 110, 103]⟩) : (s.toList == [108, 111, 110, 103]) = false := by
  rw [beq_eq_false_iff_ne]
  intro e
  exact h (toList_inj (by rw [e]; exact (ByteArray.toList_mk [108, 111, 110, 103]).symm))

/-- The answer of the servers. -/
def answerS (s : ByteArray) : ByteArray := if s = ⟨#[108, 111, 110, 103]⟩ then longS else ⟨#[60]⟩ ++ s ++ ⟨#[62]⟩

set_option maxRecDepth 100000 in
set_option maxHeartbeats 400000 in
theorem answer_any (s : ByteArray) (w : World) (hs : s.size ≤ 4100) : Calls Try.prog 13 #[.string s] w fun e w' => e = .returned (.string (answerS s)) ∧ w = w' := by
  by_cases h : s = ⟨#[108, 111, 110, 103]⟩
  · have hA : answerS s = longS := by unfold answerS; rw [if_pos h]
    have HA := hid hA
    clear hA
    subst h
    go_enter Try.func13, Try.ntmps13
    go_wp2_with (go_at_call 29; refine (long_any _).mono ?_; rintro e w1 ⟨rfl, rfl⟩)
    go_ret
    exact ⟨by rw [HA.out]; rfl, rfl⟩
  · have hA : answerS s = ⟨#[60]⟩ ++ s ++ ⟨#[62]⟩ := by unfold answerS; rw [if_neg h]
    have HA := hid hA
    clear hA
    have hne := four_ne s h
    clear h
    go_enter Try.func13, Try.ntmps13
    go_wp2_with fail
    go_ret
    exact ⟨by rw [HA.out]; rfl, rfl⟩

end Go.Proofs.Ytaglidlibocgpaa
