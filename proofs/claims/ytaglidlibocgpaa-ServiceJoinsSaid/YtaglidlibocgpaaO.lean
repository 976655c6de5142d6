/-
  A client as a plain thing, and the contracts of the inner functions that read it: how many requests are due, and the call with a number.
-/
import Derived.Test.YtaglidlibocgpaaA
import Derived.BigQuiet
import Derived.Deep.LoopGhost
namespace Go.Proofs.Ytaglidlibocgpaa
open Go.RowKit

/-- A client. -/
structure Cl where
  id : Int
  retry : Int
  tries : Int
  calls : List Asked

/-- A client's bounds. -/
structure ClOk (C : Cl) : Prop where
  id1 : 1 ≤ C.id
  retry1 : 1 ≤ C.retry
  retry2 : C.retry ≤ 1099511627776
  tries1 : 1 ≤ C.tries
  tries2 : C.tries ≤ 100
  time : ∀ x ∈ C.calls, 0 ≤ x.time ∧ x.time ≤ 1099511627776
  few : C.calls.length ≤ 1000

/-- How many requests of a call are due. -/
def dueN (retry tries time t : Int) : Int := if t < time then 0 else (if (t - time) / retry < tries - 1 then (t - time) / retry else tries - 1) + 1

theorem due_lo {retry tries time t : Int} (ht : ¬ t < time) (h1 : 1 ≤ retry) (h4 : tries ≤ 100) (h5 : 0 ≤ t - time) (h : (t - time) / retry < tries - 1) : dueN retry tries time t = wrap64 ((t - time) / retry + 1) := by
  have hq : 0 ≤ (t - time) / retry := Int.ediv_nonneg h5 (by omega)
  unfold dueN
  rw [if_neg ht, if_pos h]
  generalize (t - time) / retry = Q at *
  unfold wrap64
  omega
theorem due_hi {retry tries time t : Int} (ht : ¬ t < time) (h3 : 1 ≤ tries) (h4 : tries ≤ 100) (h : tries - 1 ≤ (t - time) / retry) : dueN retry tries time t = wrap64 tries := by
  unfold dueN
  rw [if_neg ht, if_neg (by omega)]
  unfold wrap64
  omega

set_option maxRecDepth 100000 in
set_option maxHeartbeats 400000 in
theorem due_any (cb : Nat) (retry tries : Int) (text reply : ByteArray) (time sent state t : Int) (w : World) (c1 : w.cell? ⟨cb, 1, none⟩ = some (.int .i64 retry)) (c2 : w.cell? ⟨cb, 2, none⟩ = some (.int .i64 tries))
    (h1 : 1 ≤ retry) (_h2 : retry ≤ 1099511627776) (h3 : 1 ≤ tries) (h4 : tries ≤ 100) (h5 : 0 ≤ time) (h6 : time ≤ 1099511627776) (h7 : t ≤ 9223372036854775807) :
    Calls Try.prog 34 #[.pointer (some ⟨cb, 0, none⟩), .agg #[.string text, .int .i64 time, .int .i64 sent, .int .i64 state, .string reply], .int .i64 t] w fun e w' => e = .returned (.int .i64 (dueN retry tries time t)) ∧ Below w.heap.size w w' := by
  have hlt := World.block_lt_of_cell? w _ c1
  by_cases ht : t < time
  · have hd : dueN retry tries time t = 0 := by unfold dueN; rw [if_pos ht]
    have HD := hid hd
    clear hd
    go_enter Try.func34, Try.ntmps34
    go_wp2_with fail
    go_ret
    exact ⟨by rw [HD.out]; rfl, (Below.refl _ _).alloc (Nat.le_refl _) _⟩
  · go_enter Try.func34, Try.ntmps34
    go_wp2_with fail
    go_quiet (fail)
    go_wp2_with fail
    · go_ret
      have h : (t - time) / retry < tries - 1 := by assumption
      exact ⟨by rw [due_lo (by omega) h1 h4 (by omega) h]; rfl, ((Below.refl w.heap.size w).alloc (Nat.le_refl _) _).trans ⟨rfl, rfl, rfl, Nat.le_refl _, fun _ _ => rfl⟩⟩
    · go_ret
      have h : tries - 1 ≤ (t - time) / retry := by assumption
      exact ⟨by rw [due_hi (by omega) h3 h4 h]; rfl, ((Below.refl w.heap.size w).alloc (Nat.le_refl _) _).trans ⟨rfl, rfl, rfl, Nat.le_refl _, fun _ _ => rfl⟩⟩

set_option maxRecDepth 100000 in
set_option maxHeartbeats 400000 in
theorem call_nil (n : Int) (w : World) : Calls Try.prog 35 #[.pointer none, .int .i64 n] w fun e w' => e = .returned (.tuple #[.pointer none, .bool false]) ∧ w = w' := by
  go_enter Try.func35, Try.ntmps35
  go_wp2_with fail
  go_ret2
  exact ⟨rfl, rfl⟩

set_option maxRecDepth 100000 in
set_option maxHeartbeats 400000 in
theorem call_none (cb : Nat) (n : Int) (a : Option Addr) (len cap : Nat) (w : World) (c3 : w.cell? ⟨cb, 3, none⟩ = some (.slice a len cap)) (h : n < 1 ∨ (len : Int) < n) :
    Calls Try.prog 35 #[.pointer (some ⟨cb, 0, none⟩), .int .i64 n] w fun e w' => e = .returned (.tuple #[.pointer none, .bool false]) ∧ w = w' := by
  by_cases h1 : n < 1
  · go_enter Try.func35, Try.ntmps35
    go_wp2_with fail
    go_ret2
    exact ⟨rfl, rfl⟩
  · have h2 : (len : Int) < n := by omega
    go_enter Try.func35, Try.ntmps35
    go_wp2_with fail
    go_ret2
    exact ⟨rfl, rfl⟩

set_option maxRecDepth 100000 in
set_option maxHeartbeats 400000 in
theorem call_some (cb g k : Nat) (n : Int) (len cap : Nat) (w : World) (c3 : w.cell? ⟨cb, 3, none⟩ = some (.slice (some ⟨g, 0, none⟩) len cap)) (hk : n = (k : Int) + 1) (h : k < len) (hlen : len ≤ 1000) :
    Calls Try.prog 35 #[.pointer (some ⟨cb, 0, none⟩), .int .i64 n] w fun e w' => e = .returned (.tuple #[.pointer (some ⟨g, k * 5, none⟩), .bool true]) ∧ w = w' := by
  subst hk
  go_enter Try.func35, Try.ntmps35
  go_wp2_with fail
  go_ret2
  exact ⟨rfl, rfl⟩

end Go.Proofs.Ytaglidlibocgpaa
