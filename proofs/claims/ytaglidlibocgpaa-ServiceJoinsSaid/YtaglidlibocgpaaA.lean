/-
  Contracts of the small functions that call nothing: what each returns, and what it does to memory.
-/
import Derived.Test.YtaglidlibocgpaaProg
import Derived.Test.YtaglidlibocgpaaD
namespace Go.Proofs.Ytaglidlibocgpaa
open Go.RowKit

set_option maxHeartbeats 400000 in
theorem timely_yes (n : Int) (w : World) (h0 : 0 ≤ n) (h1 : n ≤ 1099511627776) :
    Calls Try.prog 33 #[.int .i64 n] w fun e w' => e = .returned (.bool true) ∧ w = w' := by
  go_enter Try.func33, Try.ntmps33
  go_wp2
  go_ret
  exact ⟨by simp, rfl⟩

set_option maxHeartbeats 400000 in
theorem timely_no (n : Int) (w : World) (h : n < 0 ∨ 1099511627776 < n) :
    Calls Try.prog 33 #[.int .i64 n] w fun e w' => e = .returned (.bool false) ∧ w = w' := by
  by_cases h0 : 0 ≤ n
  · have h1 : ¬ n ≤ 1099511627776 := by omega
    go_enter Try.func33, Try.ntmps33
    go_wp2
    go_ret
    exact ⟨by simp, rfl⟩
  · go_enter Try.func33, Try.ntmps33
    go_wp2
    go_ret
    exact ⟨rfl, rfl⟩

set_option maxHeartbeats 400000 in
theorem one_any (a b : Int) (s : ByteArray) (w : World) :
    Calls Try.prog 15 #[.agg #[.int .i64 a, .int .i64 b, .string s]] w fun e w' => e = .returned (.agg #[.int .i64 a, .int .i64 b, .string s]) ∧ Below w.heap.size w w' := by
  go_enter Try.func15, Try.ntmps15
  go_wp2
  exact bodyPost_ret (v := .agg #[.int .i64 a, .int .i64 b, .string s]) (by simp [results, Try.results15, go_sem]) rfl ⟨rfl, ((Below.refl _ _).alloc (Nat.le_refl _) _).alloc (by simp) _⟩

set_option maxHeartbeats 400000 in
theorem done_nil (w : World) : Calls Try.prog 16 #[.pointer none] w fun e w' => e = .returned (.int .i64 0) ∧ w = w' := by
  go_enter Try.func16, Try.ntmps16
  go_wp2
  go_ret
  exact ⟨rfl, rfl⟩

set_option maxHeartbeats 400000 in
theorem done_any (b : Nat) (d : Int) (w : World) (hc : w.cell? ⟨b, 1, none⟩ = some (.int .i64 d)) : Calls Try.prog 16 #[.pointer (some ⟨b, 0, none⟩)] w fun e w' => e = .returned (.int .i64 d) ∧ w = w' := by
  go_enter Try.func16, Try.ntmps16
  go_wp2
  go_ret
  exact ⟨rfl, rfl⟩

/-- cmp: the difference of the numbers. -/
theorem cmp_any (c m : Int) (s : ByteArray) (n : Int) (w : World) (h1 : -9223372036854775808 ≤ m - n) (h2 : m - n ≤ 9223372036854775807) :
    Calls Try.prog 38 #[.agg #[.int .i64 c, .int .i64 m, .string s], .int .i64 n] w fun e w' => e = .returned (.int .i64 (m - n)) ∧ Below w.heap.size w w' := by
  go_enter Try.func38, Try.ntmps38
  go_wp2
  go_ret
  exact ⟨rfl, (Below.refl _ _).alloc (Nat.le_refl _) _⟩

set_option maxHeartbeats 400000 in
theorem refNewServer_bad (keep : Int) (w : World) (h : keep < 1 ∨ 256 < keep) :
    Calls Try.prog 11 #[.int .i64 keep] w fun e w' => e = .returned (.tuple #[.agg #[.int .i64 0, .slice none 0 0, .int .i64 0], .int .i64 4]) ∧ Below w.heap.size w w' := by
  by_cases h1 : keep < 1
  · go_enter Try.func11, Try.ntmps11
    go_wp2
    exact bodyPost_ret (v := .tuple #[.agg #[.int .i64 0, .slice none 0 0, .int .i64 0], .int .i64 4]) (by simp [results, Try.results11, go_sem]) rfl ⟨rfl, (Below.refl _ _).alloc (Nat.le_refl _) _⟩
  · have h2 : 256 < keep := by omega
    go_enter Try.func11, Try.ntmps11
    go_wp2
    exact bodyPost_ret (v := .tuple #[.agg #[.int .i64 0, .slice none 0 0, .int .i64 0], .int .i64 4]) (by simp [results, Try.results11, go_sem]) rfl ⟨rfl, (Below.refl _ _).alloc (Nat.le_refl _) _⟩

set_option maxHeartbeats 400000 in
theorem refNewServer_ok (keep : Int) (w : World) (h1 : 1 ≤ keep) (h2 : keep ≤ 256) :
    Calls Try.prog 11 #[.int .i64 keep] w fun e w' => e = .returned (.tuple #[.agg #[.int .i64 keep, .slice none 0 0, .int .i64 0], .int .i64 0]) ∧ Below w.heap.size w w' := by
  go_enter Try.func11, Try.ntmps11
  go_wp2
  exact bodyPost_ret (v := .tuple #[.agg #[.int .i64 keep, .slice none 0 0, .int .i64 0], .int .i64 0]) (by simp [results, Try.results11, go_sem]) rfl ⟨rfl, (Below.refl _ _).alloc (Nat.le_refl _) _⟩

set_option maxHeartbeats 400000 in
theorem newServer_bad (keep : Int) (w : World) (h : keep < 1 ∨ 256 < keep) :
    Calls Try.prog 10 #[.int .i64 keep] w fun e w' => e = .returned (.tuple #[.pointer none, .int .i64 4]) ∧ w = w' := by
  by_cases h1 : keep < 1
  · go_enter Try.func10, Try.ntmps10
    go_wp2
    go_ret2
    exact ⟨rfl, rfl⟩
  · have h2 : 256 < keep := by omega
    go_enter Try.func10, Try.ntmps10
    go_wp2
    go_ret2
    exact ⟨rfl, rfl⟩

set_option maxHeartbeats 400000 in
theorem newServer_ok (keep : Int) (w : World) (h1 : 1 ≤ keep) (h2 : keep ≤ 256) :
    Calls Try.prog 10 #[.int .i64 keep] w fun e w' => e = .returned (.tuple #[.pointer (some ⟨w.heap.size + 1, 0, none⟩), .int .i64 0]) ∧
      (w.alloc (.map #[] 0)).alloc (.cells #[.int .i64 keep, .int .i64 0, .map (some w.heap.size)] 71) = w' := by
  have hmm := @run_makeMap Try.prog
  go_enter Try.func10, Try.ntmps10
  go_wp2
  go_ret2
  exact ⟨rfl, rfl⟩

set_option maxHeartbeats 400000 in
theorem newClient_ok (id retry tries : Int) (w : World) (h1 : 1 ≤ id) (h2 : 1 ≤ retry) (h3 : retry ≤ 1099511627776) (h4 : 1 ≤ tries) (h5 : tries ≤ 100) :
    Calls Try.prog 17 #[.int .i64 id, .int .i64 retry, .int .i64 tries] w fun e w' => e = .returned (.tuple #[.pointer (some ⟨w.heap.size, 0, none⟩), .int .i64 0]) ∧
      w.alloc (.cells #[.int .i64 id, .int .i64 retry, .int .i64 tries, .slice none 0 0] 84) = w' := by
  go_enter Try.func17, Try.ntmps17
  go_wp2
  go_ret2
  exact ⟨rfl, rfl⟩

end Go.Proofs.Ytaglidlibocgpaa
