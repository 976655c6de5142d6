/-
  (*Client).Reply and (*Client).Result: what they return, and the client's memory behind a reply.
-/
import Derived.Test.YtaglidlibocgpaaS
import Derived.BigRegion
namespace Go.Proofs.Ytaglidlibocgpaa
open Go.RowKit

/-- A client's memory behind a reply's arrival, the verdict and the error. -/
def replyC (C : Cl) (r : Rq) : Cl × Bool × Int :=
  if h : 1 ≤ r.number ∧ r.number ≤ C.calls.length ∧ r.client = C.id then
    if 4000 < r.text.size then (C, false, 3)
    else if (C.calls[(r.number - 1).toNat]'(by omega)).state = 0 then
      ({ C with calls := C.calls.set (r.number - 1).toNat { (C.calls[(r.number - 1).toNat]'(by omega)) with state := 1, reply := r.text } }, true, 0)
    else (C, false, 0)
  else (C, false, 6)
/-- What a call has come to. -/
def resultC (C : Cl) (n : Int) : ByteArray × Int :=
  if h : 1 ≤ n ∧ n ≤ C.calls.length then
    if (C.calls[(n - 1).toNat]'(by omega)).state = 0 then (⟨#[]⟩, 10)
    else if (C.calls[(n - 1).toNat]'(by omega)).state = 2 then (⟨#[]⟩, 12)
    else ((C.calls[(n - 1).toNat]'(by omega)).reply, 0)
  else (⟨#[]⟩, 6)

def ReplyEnds (cb : Nat) (C : Cl) (r : Rq) (v : Value) (w : World) (e : Ending) (w' : World) : Prop :=
  e = .returned (.tuple #[.bool (replyC C r).2.1, .int .i64 (replyC C r).2.2]) ∧ Mem w' cb (replyC C r).1 v ∧ Upd (fun k => v.ownBlock = some k) w w'

theorem reply_same {cb : Nat} {C : Cl} {r : Rq} {v : Value} {w w' : World} {b : Bool} {n : Int} (M : Mem w cb C v) (hb : Below w.heap.size w w') (h : replyC C r = (C, b, n)) : ReplyEnds cb C r v w (.returned (.tuple #[.bool b, .int .i64 n])) w' := by
  unfold ReplyEnds
  rw [h]
  exact ⟨rfl, M.below hb, Upd.of_new hb⟩

theorem reply_hit {cb g cap k : Nat} {C : Cl} {r : Rq} {x : Asked} {w w2 : World} (M : Mem w cb C (.slice (some ⟨g, 0, none⟩) C.calls.length cap)) (hb : Below w.heap.size w w2) (h : k < C.calls.length) (hx : x = C.calls[k]) (_hg : g < w.heap.size)
    (hr : replyC C r = ({ C with calls := C.calls.set k { x with state := 1, reply := r.text } }, true, 0)) :
    ReplyEnds cb C r (.slice (some ⟨g, 0, none⟩) C.calls.length cap) w (.returned (.tuple #[.bool true, .int .i64 0])) (((w2.setCell ⟨g, k * 5 + 3, none⟩ (.int .i64 1)).setCell ⟨g, k * 5 + 4, none⟩ (.string r.text)).drew) := by
  unfold ReplyEnds
  rw [hr]
  subst hx
  refine ⟨rfl, ?_, ?_⟩
  · have m1 := (M.below hb).store (k := k) (j := 3) (x := { C.calls[k] with state := 1 }) (u := .int .i64 1) h (by omega) rfl
    have m2 := m1.store (k := k) (j := 4) (x := { C.calls[k] with state := 1, reply := r.text }) (u := .string r.text) (by simpa using h) (by omega) (by simp [Asked.cells])
    dsimp only at m2
    rw [List.set_set] at m2
    exact m2.below ⟨rfl, rfl, rfl, Nat.le_refl _, fun _ _ => rfl⟩
  · have u1 : Upd (fun k => (Value.slice (some ⟨g, 0, none⟩) C.calls.length cap).ownBlock = some k) w w2 := Upd.of_new hb
    exact ((u1.setCell (p := ⟨g, k * 5 + 3, none⟩) (.inl rfl) _).setCell (p := ⟨g, k * 5 + 4, none⟩) (.inl rfl) _).trans (Upd.of_new (F := fun _ => False) ⟨rfl, rfl, rfl, Nat.le_refl _, fun _ _ => rfl⟩) (fun _ h => h.elim)

/-- The cells of a client behind an allocation. -/
theorem cell_box {w : World} {a : Addr} {v : Value} (o : Obj) (h : w.cell? a = some v) : (w.alloc o).cell? a = some v :=
  (((Below.refl w.heap.size w).alloc (Nat.le_refl _) o).cell (World.block_lt_of_cell? w a h)).trans h
theorem below_box (w : World) (o : Obj) (n : Nat) : Below w.heap.size w ((w.alloc o).drewN n) := ((Below.refl w.heap.size w).alloc (Nat.le_refl _) o).trans ⟨rfl, rfl, rfl, Nat.le_refl _, fun _ _ => rfl⟩

set_option maxRecDepth 100000 in
set_option maxHeartbeats 2000000 in
theorem reply_any (cb : Nat) (C : Cl) (r : Rq) (v : Value) (w : World) (M : Mem w cb C v) (hfew : C.calls.length ≤ 1000) (hsz : r.text.size ≤ maxLen) :
    Calls Try.prog 20 #[.pointer (some ⟨cb, 0, none⟩), .agg #[.int .i64 r.client, .int .i64 r.number, .string r.text]] w (ReplyEnds cb C r v w) := by
  have hcb := M.lt
  have c0 := M.c0
  have c3 := M.c3
  have HM := hid M
  unfold maxLen at hsz
  by_cases hn : r.number < 1 ∨ (C.calls.length : Int) < r.number
  · have hr : replyC C r = (C, false, 6) := by unfold replyC; rw [dif_neg (by omega)]
    have HR := hid hr
    obtain ⟨a, cap, rfl⟩ : ∃ a cap, v = .slice a C.calls.length cap := by
      rcases M.shape with ⟨rfl, h0⟩ | ⟨g, cap, rfl, hc, _⟩
      · exact ⟨none, 0, by rw [h0]⟩
      · exact ⟨_, cap, rfl⟩
    have HN := hid hn
    clear M hr hn
    go_enter Try.func20, Try.ntmps20
    go_wp2_with (go_at_call 35; refine (call_none cb r.number a C.calls.length cap _ (cell_box _ c3) HN.out).mono ?_; rintro e w1 ⟨rfl, rfl⟩)
    go_quiet (fail)
    go_wp2_with fail
    go_ret2
    exact reply_same HM.out (below_box _ _ _) HR.out
  · obtain ⟨g, cap, rfl, hgw⟩ : ∃ g cap, v = .slice (some ⟨g, 0, none⟩) C.calls.length cap ∧ g < w.heap.size := by
      rcases M.shape with ⟨rfl, h0⟩ | ⟨g, cap, rfl, hc, hg⟩
      · omega
      · exact ⟨g, cap, rfl, hg⟩
    obtain ⟨k, hk, hkl⟩ : ∃ k : Nat, r.number = (k : Int) + 1 ∧ k < C.calls.length := ⟨(r.number - 1).toNat, by omega, by omega⟩
    obtain ⟨x0, x1, x2, x3, x4⟩ := M.call hkl
    have f3 := M.free (k * 5 + 3)
    have f4 := M.free (k * 5 + 4)
    obtain ⟨x, hx⟩ : ∃ x, x = C.calls[k] := ⟨_, rfl⟩
    rw [← hx] at x0 x1 x2 x3 x4
    have hki : (r.number - 1).toNat = k := by omega
    have hrc : replyC C r = if r.client = C.id then (if 4000 < r.text.size then (C, false, 3) else if x.state = 0 then ({ C with calls := C.calls.set k { x with state := 1, reply := r.text } }, true, 0) else (C, false, 0)) else (C, false, 6) := by
      unfold replyC
      simp only [hki, ← hx]
      by_cases he : r.client = C.id
      · rw [dif_pos ⟨by omega, by omega, he⟩, if_pos he]
      · rw [dif_neg (fun h => he h.2.2), if_neg he]
    have HX := hid hx
    have HK := hid hk
    clear M x0 x1 x2 hn hx hki hk
    by_cases he : r.client = C.id
    · rw [if_pos he] at hrc
      have hnq : (r.client != C.id) = false := by simpa using he
      clear he
      by_cases hlong : 4000 < r.text.size
      · rw [if_pos hlong] at hrc
        have HR := hid hrc
        clear hrc
        go_enter Try.func20, Try.ntmps20
        go_wp2_with (go_at_call 35; refine (call_some cb g k r.number C.calls.length cap _ (cell_box _ c3) HK.out hkl hfew).mono ?_; rintro e w1 ⟨rfl, rfl⟩)
        go_quiet (fail)
        go_wp2_with fail
        go_ret2
        exact reply_same HM.out (below_box _ _ _) HR.out
      · rw [if_neg hlong] at hrc
        by_cases hs : x.state = 0
        · rw [if_pos hs] at hrc
          have HR := hid hrc
          have HS := hid hs
          have hs0 : (x.state != 0) = false := by simpa using hs
          clear hrc hs
          go_enter Try.func20, Try.ntmps20
          go_wp2_with (go_at_call 35; refine (call_some cb g k r.number C.calls.length cap _ (cell_box _ c3) HK.out hkl hfew).mono ?_; rintro e w1 ⟨rfl, rfl⟩)
          go_quiet (fail)
          go_upto_region 8 with fail
          have hb2 := below_box w (.cells #[.int .i64 r.client, .int .i64 r.number, .string r.text] 37) nq
          have q3 := (hb2.cell (p := ⟨g, k * 5 + 3, none⟩) hgw).trans x3
          have q4 := (hb2.cell (p := ⟨g, k * 5 + 4, none⟩) hgw).trans x4
          have p3 := (hb2.frozen (p := ⟨g, k * 5 + 3, none⟩) hgw).trans f3
          have p4 := (hb2.frozen (p := ⟨g, k * 5 + 4, none⟩) hgw).trans f4
          have qb : ((w.alloc (.cells #[.int .i64 r.client, .int .i64 r.number, .string r.text] 37)).drewN nq).cell? ⟨w.heap.size, 2, none⟩ = some (.string r.text) := by simp
          have hgb : g ≠ w.heap.size := by omega
          obtain ⟨B, hB⟩ : ∃ B, B = w.heap.size := ⟨_, rfl⟩
          obtain ⟨w2, hw2⟩ : ∃ w2, w2 = (w.alloc (.cells #[.int .i64 r.client, .int .i64 r.number, .string r.text] 37)).drewN nq := ⟨_, rfl⟩
          rw [← hw2] at hb2 q3 q4 p3 p4 qb ⊢
          rw [← hB] at hgb qb ⊢
          have HB := hid hb2
          have HBB := hid hB
          clear hb2 hw2 hB c0 c3 x3 x4 f3 f4
          go_region
          all_goals (go_wp2_with fail; go_ret2)
          exact reply_hit HM.out HB.out hkl HX.out hgw HR.out
        · rw [if_neg hs] at hrc
          have HR := hid hrc
          have hs0 : (x.state != 0) = true := by simpa using hs
          clear hrc
          go_enter Try.func20, Try.ntmps20
          go_wp2_with (go_at_call 35; refine (call_some cb g k r.number C.calls.length cap _ (cell_box _ c3) HK.out hkl hfew).mono ?_; rintro e w1 ⟨rfl, rfl⟩)
          go_quiet (fail)
          go_wp2_with fail
          go_ret2
          exact reply_same HM.out (below_box _ _ _) HR.out
    · rw [if_neg he] at hrc
      have HR := hid hrc
      have hnq : (r.client != C.id) = true := by simpa using he
      clear hrc
      go_enter Try.func20, Try.ntmps20
      go_wp2_with (go_at_call 35; refine (call_some cb g k r.number C.calls.length cap _ (cell_box _ c3) HK.out hkl hfew).mono ?_; rintro e w1 ⟨rfl, rfl⟩)
      go_quiet (fail)
      go_wp2_with fail
      go_ret2
      exact reply_same HM.out (below_box _ _ _) HR.out

def ResultEnds (C : Cl) (n : Int) (w : World) (e : Ending) (w' : World) : Prop := e = .returned (.tuple #[.string (resultC C n).1, .int .i64 (resultC C n).2]) ∧ w = w'
theorem result_at {C : Cl} {n : Int} {w : World} {s : ByteArray} {m : Int} (h : resultC C n = (s, m)) : ResultEnds C n w (.returned (.tuple #[.string s, .int .i64 m])) w := by
  unfold ResultEnds
  rw [h]
  exact ⟨rfl, rfl⟩

set_option maxRecDepth 100000 in
set_option maxHeartbeats 2000000 in
theorem result_any (cb : Nat) (C : Cl) (n : Int) (v : Value) (w : World) (M : Mem w cb C v) (hfew : C.calls.length ≤ 1000) :
    Calls Try.prog 22 #[.pointer (some ⟨cb, 0, none⟩), .int .i64 n] w (ResultEnds C n w) := by
  have c3 := M.c3
  by_cases hn : n < 1 ∨ (C.calls.length : Int) < n
  · have hr : resultC C n = (⟨#[]⟩, 6) := by unfold resultC; rw [dif_neg (by omega)]
    have HR := hid hr
    obtain ⟨a, cap, rfl⟩ : ∃ a cap, v = .slice a C.calls.length cap := by
      rcases M.shape with ⟨rfl, h0⟩ | ⟨g, cap, rfl, hc, _⟩
      · exact ⟨none, 0, by rw [h0]⟩
      · exact ⟨_, cap, rfl⟩
    have HN := hid hn
    clear M hr hn
    go_enter Try.func22, Try.ntmps22
    go_wp2_with (go_at_call 35; refine (call_none cb n a C.calls.length cap _ c3 HN.out).mono ?_; rintro e w1 ⟨rfl, rfl⟩)
    go_ret2
    exact result_at HR.out
  · obtain ⟨g, cap, rfl, hgw⟩ : ∃ g cap, v = .slice (some ⟨g, 0, none⟩) C.calls.length cap ∧ g < w.heap.size := by
      rcases M.shape with ⟨rfl, h0⟩ | ⟨g, cap, rfl, hc, hg⟩
      · omega
      · exact ⟨g, cap, rfl, hg⟩
    obtain ⟨k, rfl, hkl⟩ : ∃ k : Nat, n = (k : Int) + 1 ∧ k < C.calls.length := ⟨(n - 1).toNat, by omega, by omega⟩
    obtain ⟨x0, x1, x2, x3, x4⟩ := M.call hkl
    obtain ⟨x, hx⟩ : ∃ x, x = C.calls[k] := ⟨_, rfl⟩
    rw [← hx] at x0 x1 x2 x3 x4
    have hki : ((k : Int) + 1 - 1).toNat = k := by omega
    have hrc : resultC C ((k : Int) + 1) = if x.state = 0 then (⟨#[]⟩, 10) else if x.state = 2 then (⟨#[]⟩, 12) else (x.reply, 0) := by
      unfold resultC
      simp only [hki, ← hx]
      rw [dif_pos ⟨by omega, by omega⟩]
    clear M x0 x1 x2 hn hx hki
    by_cases hs : x.state = 0
    · rw [if_pos hs] at hrc
      have HR := hid hrc
      have hs0 : (x.state == 0) = true := by simpa using hs
      clear hrc hs
      go_enter Try.func22, Try.ntmps22
      go_wp2_with (go_at_call 35; refine (call_some cb g k _ C.calls.length cap _ c3 rfl hkl hfew).mono ?_; rintro e w1 ⟨rfl, rfl⟩)
      go_ret2
      exact result_at HR.out
    · rw [if_neg hs] at hrc
      have hs0 : (x.state == 0) = false := by simpa using hs
      by_cases h2 : x.state = 2
      · rw [if_pos h2] at hrc
        have HR := hid hrc
        have hs2 : (x.state == 2) = true := by simpa using h2
        clear hrc hs h2
        go_enter Try.func22, Try.ntmps22
        go_wp2_with (go_at_call 35; refine (call_some cb g k _ C.calls.length cap _ c3 rfl hkl hfew).mono ?_; rintro e w1 ⟨rfl, rfl⟩)
        go_ret2
        exact result_at HR.out
      · rw [if_neg h2] at hrc
        have HR := hid hrc
        have hs2 : (x.state == 2) = false := by simpa using h2
        clear hrc hs h2
        go_enter Try.func22, Try.ntmps22
        go_wp2_with (go_at_call 35; refine (call_some cb g k _ C.calls.length cap _ c3 rfl hkl hfew).mono ?_; rintro e w1 ⟨rfl, rfl⟩)
        go_ret2
        exact result_at HR.out

end Go.Proofs.Ytaglidlibocgpaa
