/-
  (*Client).Poll: the requests that are due, and the client's memory behind the call.
-/
import Derived.Test.YtaglidlibocgpaaQ
import Derived.Test.YtaglidlibocgpaaG
import Derived.Deep.RegionHeld3
import Derived.Deep.AppendLies
import Derived.Deep.DeepCutAuto
namespace Go.Proofs.Ytaglidlibocgpaa
open Go.RowKit

theorem Mem.c0 {w : World} {cb : Nat} {C : Cl} {v : Value} (M : Mem w cb C v) : w.cell? ⟨cb, 0, none⟩ = some (.int .i64 C.id) := by rw [cell_of_row w cb 0 _ _ _ M.row]; rfl
theorem Mem.c1 {w : World} {cb : Nat} {C : Cl} {v : Value} (M : Mem w cb C v) : w.cell? ⟨cb, 1, none⟩ = some (.int .i64 C.retry) := by rw [cell_of_row w cb 1 _ _ _ M.row]; rfl
theorem Mem.c2 {w : World} {cb : Nat} {C : Cl} {v : Value} (M : Mem w cb C v) : w.cell? ⟨cb, 2, none⟩ = some (.int .i64 C.tries) := by rw [cell_of_row w cb 2 _ _ _ M.row]; rfl
theorem Mem.c3 {w : World} {cb : Nat} {C : Cl} {v : Value} (M : Mem w cb C v) : w.cell? ⟨cb, 3, none⟩ = some v := by rw [cell_of_row w cb 3 _ _ _ M.row]; rfl
theorem Mem.call {w : World} {cb g n cap : Nat} {C : Cl} (M : Mem w cb C (.slice (some ⟨g, 0, none⟩) n cap)) {k : Nat} (h : k < C.calls.length) :
    w.cell? ⟨g, k * 5, none⟩ = some (.string C.calls[k].text) ∧ w.cell? ⟨g, k * 5 + 1, none⟩ = some (.int .i64 C.calls[k].time) ∧ w.cell? ⟨g, k * 5 + 2, none⟩ = some (.int .i64 C.calls[k].sent) ∧
    w.cell? ⟨g, k * 5 + 3, none⟩ = some (.int .i64 C.calls[k].state) ∧ w.cell? ⟨g, k * 5 + 4, none⟩ = some (.string C.calls[k].reply) := by
  have hn : n = C.calls.length := by
    rcases M.own.2 with ⟨h', _⟩ | ⟨g', cap', cur, h', _⟩
    · cases h'
    · cases h'; rfl
  subst hn
  have := asked_cells (Reads.of_owns M.own) k h
  simpa using this
theorem Mem.free {w : World} {cb g n cap : Nat} {C : Cl} (M : Mem w cb C (.slice (some ⟨g, 0, none⟩) n cap)) (o : Nat) : w.frozen? ⟨g, o, none⟩ = false := by
  rcases M.own.2 with ⟨h', _⟩ | ⟨g', cap', cur, h', _, hg, _⟩
  · cases h'
  · cases h'
    exact frozen_of_row w g o cur 87 hg
theorem Mem.shape {w : World} {cb : Nat} {C : Cl} {v : Value} (M : Mem w cb C v) : (v = .slice none 0 0 ∧ C.calls.length = 0) ∨ ∃ g cap, v = .slice (some ⟨g, 0, none⟩) C.calls.length cap ∧ C.calls.length ≤ cap ∧ g < w.heap.size := by
  rcases M.own.2 with h | ⟨g, cap, cur, rfl, _, hg, hc, _⟩
  · exact .inl h
  · exact .inr ⟨g, cap, rfl, hc, (Array.getElem?_eq_some_iff.1 hg).1⟩

theorem poll_nil (t : Int) (w : World) : Calls Try.prog 19 #[.pointer none, .int .i64 t] w fun e w' => e = .returned (.slice none 0 0) ∧ w = w' := by
  go_enter Try.func19, Try.ntmps19
  go_wp2_with fail
  go_ret
  exact ⟨rfl, rfl⟩

def Polled (cb : Nat) (C : Cl) (t : Int) (v : Value) (w : World) (e : Ending) (w' : World) : Prop :=
  ∃ vo, e = .returned vo ∧ w'.ownsRow w.heap.size 37 3 vo (pollC C t).2.length (rqs (pollC C t).2) ∧ Mem w' cb (pollC C t).1 v ∧ Upd (fun k => v.ownBlock = some k) w w'

def PollR (cb : Nat) (C : Cl) (t : Int) (v : Value) (w : World) (k : Nat) (vo : Value) (wr : World) : Prop :=
  Rounds (pollOne C.retry C.tries t) 37 3 (rqs (pollOut C.id C.retry C.tries t 0 (C.calls.take k))) (pollOut C.id C.retry C.tries t 0 (C.calls.take k)).length cb C v w k vo wr

theorem poll_keep {cb : Nat} {C : Cl} {t : Int} {v : Value} {w : World} {k : Nat} {vo : Value} {wr w1 : World} {x : Asked} (R : PollR cb C t v w k vo wr) (hb : Below wr.heap.size wr w1) (h : k < C.calls.length) (hx : x = C.calls[k]) (hd : ¬ isDue C.retry C.tries t x = true) :
    PollR cb C t v w (k + 1) vo w1 := by
  subst hx
  have htk : C.calls.take (k + 1) = C.calls.take k ++ [C.calls[k]] := List.take_succ_eq_append_getElem h
  have hnd : pollOne C.retry C.tries t C.calls[k] = C.calls[k] := by unfold pollOne; rw [if_neg hd]
  unfold PollR
  rw [htk, pollOut_snoc, if_neg hd, List.append_nil]
  exact Rounds.keep R hb h hnd

set_option maxRecDepth 100000 in
set_option maxHeartbeats 2000000 in
theorem poll_any (cb : Nat) (C : Cl) (t : Int) (v : Value) (w : World) (M : Mem w cb C v) (ok : ClOk C) (ht : t ≤ 9223372036854775807) :
    Calls Try.prog 19 #[.pointer (some ⟨cb, 0, none⟩), .int .i64 t] w (Polled cb C t v w) := by
  obtain ⟨i0, hi, hz0, hz1, hz2⟩ := info_parts Try.info37
  have hcb := M.lt
  have k3 := M.c3
  have hfew := ok.few
  obtain ⟨a, cap, rfl, hcap⟩ : ∃ a cap, v = .slice a C.calls.length cap ∧ C.calls.length ≤ cap := by
    rcases M.shape with ⟨rfl, h0⟩ | ⟨g, cap, rfl, hc, _⟩
    · exact ⟨none, 0, by rw [h0], by omega⟩
    · exact ⟨_, cap, rfl, hc⟩
  have HM := hid M
  go_enter Try.func19, Try.ntmps19
  go_wp2_with fail
  go_loopg [5, 16] (C.calls.length + 1) (fun g vo i wr => ∃ k : Nat, i = .int .i64 k ∧ k ≤ C.calls.length ∧ C.calls.length - k < g ∧ PollR cb C t (.slice a C.calls.length cap) w k vo wr)
  case atStart => exact ⟨0, rfl, by omega, by omega, Rounds.start HM.out⟩
  case round =>
    obtain ⟨k, rfl, hk, hg, hR⟩ := hrel
    clear M k3
    by_cases hlt : k < C.calls.length
    · obtain ⟨g, rfl, hgw⟩ : ∃ g, a = some ⟨g, 0, none⟩ ∧ g < w.heap.size := by
        rcases HM.out.shape with ⟨e, h0⟩ | ⟨g, cap', e, _, hg⟩
        · omega
        · simp only [Value.slice.injEq, true_and] at e
          exact ⟨g, e.1, hg⟩
      have hM := Rounds.mem hR
      have c0 := hM.c0
      have c1 := hM.c1
      have c2 := hM.c2
      have c3 := hM.c3
      have hkl : k < (upTo (pollOne C.retry C.tries t) C.calls k).length := by rw [upTo_length]; exact hlt
      obtain ⟨x0, x1, x2, x3, x4⟩ := hM.call (k := k) hkl
      have hx : (upTo (pollOne C.retry C.tries t) C.calls k)[k] = C.calls[k] := upTo_get _ _ _ hlt
      dsimp only at c0 c1 c2 c3 x0 x1 x2 x3 x4
      rw [hx] at x0 x1 x2 x3 x4
      have hxt := ok.time C.calls[k] (List.getElem_mem _)
      obtain ⟨x, hxx⟩ : ∃ x, x = C.calls[k] := ⟨_, rfl⟩
      rw [← hxx] at x0 x1 x2 x3 x4 hxt
      have HX := hid hxx
      have HR := hid hR
      have fz := hM.free
      have n1 := ok.retry1
      have n2 := ok.retry2
      have n3 := ok.tries1
      have n4 := ok.tries2
      obtain ⟨t1, t2⟩ := hxt
      have hgr : g < wr.heap.size := hM.vlt rfl
      have hcr : cb < wr.heap.size := hM.lt
      have hgc : g ≠ cb := fun e => hM.apart (by rw [← e]; rfl)
      obtain ⟨N, hN⟩ : ∃ N, N = dueN C.retry C.tries x.time t := ⟨_, rfl⟩
      have hdue := due_any cb C.retry C.tries x.text x.reply x.time x.sent x.state t wr c1 c2 n1 n2 n3 n4 t1 t2 ht
      rw [← hN] at hdue
      have HDUE := hid hdue
      clear hR hM hx hkl hxx hdue
      by_cases hd : isDue C.retry C.tries t x = true
      · have hs0 : (x.state == 0) = true ∧ decide (x.sent < N) = true := by rw [hN]; unfold isDue at hd; simpa using hd
        obtain ⟨hs0, hs1⟩ := hs0
        have HN := hid hN
        have HD := hid hd
        clear hd hN n1 n2 n3 n4 t1 t2
        go_upto_region 11 with (go_at_call 34; refine HDUE.out.mono ?_; rintro e w1 ⟨rfl, hb1⟩; have d0 := (hb1.cell (p := ⟨cb, 0, none⟩) hcr).trans c0; have e0 := (hb1.cell (p := ⟨g, k * 5, none⟩) hgr).trans x0; have e2 := (hb1.cell (p := ⟨g, k * 5 + 2, none⟩) hgr).trans x2; have e3 := (hb1.cell (p := ⟨g, k * 5 + 3, none⟩) hgr).trans x3; have f2 := (hb1.frozen (p := ⟨g, k * 5 + 2, none⟩) hgr).trans (fz _))
        have hfx : C.calls[k].cells.set 2 (.int .i64 N) = (pollOne C.retry C.tries t C.calls[k]).cells := by
          rw [← HX.out]
          unfold pollOne
          rw [if_pos HD.out, ← HN.out]
          rfl
        have hH := Rounds.hit HR.out hb1 hlt (by omega) hfx hgw
        have q0 : (w1.setCell ⟨g, k * 5 + 2, none⟩ (.int .i64 N)).cell? ⟨cb, 0, none⟩ = some (.int .i64 C.id) := by rw [World.cell?_setCell_other _ _ _ _ (by simp)]; exact d0
        have q1 : (w1.setCell ⟨g, k * 5 + 2, none⟩ (.int .i64 N)).cell? ⟨g, k * 5, none⟩ = some (.string x.text) := by rw [World.cell?_setCell_other _ _ _ _ (by simp)]; exact e0
        have s0 : (w1.setCell ⟨g, k * 5 + 2, none⟩ (.int .i64 N)).heap.size = w1.heap.size := by simp
        have s1 : wr.heap.size ≤ (w1.setCell ⟨g, k * 5 + 2, none⟩ (.int .i64 N)).heap.size := by rw [s0]; exact hb1.size
        obtain ⟨w2, hw2⟩ : ∃ w2, w2 = w1.setCell ⟨g, k * 5 + 2, none⟩ (.int .i64 N) := ⟨_, rfl⟩
        rw [← hw2] at hH q0 q1 s1 ⊢
        have HH := hid hH
        have HOWN := hid hH.2.1
        have hws : w.heap.size ≤ w2.heap.size := hH.2.2.size
        have m0 := World.new_ne w2 _ q0
        have m1 := World.new_ne w2 _ q1
        have hol := pollOut_length C.id C.retry C.tries t (C.calls.take k) 0
        rw [List.length_take] at hol
        have hwr : IntKind.i64.wrap ((k : Int) + 1) = (k : Int) + 1 := by rw [IntKind.wrap_i64]; omega
        clear hw2 hH s0 d0 e0 e2 e3 f2 c0 c1 c2 c3 x0 x1 x2 x3 x4 fz hs0 hs1 hfx hb1
        go_region_held3 (fun w' => w'.cell? ⟨cb, 0, none⟩ = some (.int .i64 C.id) ∧ w'.cell? ⟨g, k * 5, none⟩ = some (.string x.text))
          (first
            | go_keep
            | (go_split_ands
               refine ⟨?_, ?_⟩
               · (rw [hgrow.cell_far _ (by simp; omega) (by intro e; have := (HOWN.out.lt _ e.symm).1; simp only at this; omega)]; assumption)
               · (rw [hgrow.cell_far _ (by simp; omega) (by intro e; have := (HOWN.out.lt _ e.symm).1; simp only at this; omega)]; assumption)))
          ((refine step_append_lies _ (by rfl) _ _ _ (by rfl) w.heap.size 37 i0 _ 3 32 Try.underlying47 hi hz0 hz1 hz2 rfl (by omega) u5 (pollOut C.id C.retry C.tries t 0 (C.calls.take k)).length (rqs (pollOut C.id C.retry C.tries t 0 (C.calls.take k))) (by rfl) ((HOWN.out.alloc _).drew) ⟨w2.heap.size, 0, none⟩ 1 1 (rqs [⟨C.id, (k : Int) + 1, x.text⟩]) (by rfl) (by rfl) (World.news_of_block (cs := (rqs [⟨C.id, (k : Int) + 1, x.text⟩]).toArray) (t := 37) (fr := (0, 0)) (heap_alloc_new w2 _)) (rqs_one _) (by omega) (by unfold maxLen; omega) (by omega) (by simp; omega) (w2.heap.size + 1) (by simp) ?_; intro gg cap3 w3 hown3 hgrow hat hlt3))
        go_wp2_with fail
        go_roundg (gk - 1)
        case measure => omega
        case rel =>
          refine ⟨k + 1, by go_num, by omega, by omega, ?_⟩
          have htk : C.calls.take (k + 1) = C.calls.take k ++ [C.calls[k]] := List.take_succ_eq_append_getElem hlt
          have hd := HD.out
          rw [HX.out] at hd hown3
          have hol2 : (C.calls.take k).length = k := by simp; omega
          unfold PollR
          rw [htk, pollOut_snoc, if_pos hd, hol2, List.length_append, rqs_append, Nat.zero_add]
          exact Rounds.out HH.out hcb (fun b hb => by cases hb; exact hgw) (w3 := (w2.alloc _).drew) (o := _) rfl ⟨rfl, rfl, rfl⟩ hgrow hown3
      · have hsp : (x.state == 0) = false ∨ (x.state == 0) = true ∧ decide (x.sent < N) = false := by
          rw [hN]
          unfold isDue at hd
          cases h1 : (x.state == 0)
          · exact .inl rfl
          · rw [h1, Bool.true_and] at hd
            exact .inr ⟨rfl, by simpa using hd⟩
        have HD := hid hd
        have HN := hid hN
        clear hd hN n1 n2 n3 n4 t1 t2
        rcases hsp with hs0 | ⟨hs0, hs1⟩
        · go_wp2_with (go_at_call 34; refine HDUE.out.mono ?_; rintro e w1 ⟨rfl, hb1⟩; have e3 := (hb1.cell (p := ⟨g, k * 5 + 3, none⟩) hgr).trans x3)
          go_roundg (gk - 1)
          case measure => omega
          case rel => exact ⟨k + 1, by go_num, by omega, by omega, poll_keep HR.out hb1 hlt HX.out HD.out⟩
        · go_wp2_with (go_at_call 34; refine HDUE.out.mono ?_; rintro e w1 ⟨rfl, hb1⟩; have e2 := (hb1.cell (p := ⟨g, k * 5 + 2, none⟩) hgr).trans x2; have e3 := (hb1.cell (p := ⟨g, k * 5 + 3, none⟩) hgr).trans x3)
          go_roundg (gk - 1)
          case measure => omega
          case rel => exact ⟨k + 1, by go_num, by omega, by omega, poll_keep HR.out hb1 hlt HX.out HD.out⟩
    · have hk' : k = C.calls.length := by omega
      subst hk'
      have HR := hid hR
      clear hR
      go_wp2_with fail
      go_ret
      refine ⟨_, rfl, ?_, ?_, HR.out.upd⟩
      · have := HR.out.own
        rw [List.take_of_length_le (Nat.le_refl _)] at this
        exact this
      · have := HR.out.mem
        rw [upTo_all _ _ _ (Nat.le_refl _)] at this
        exact this

end Go.Proofs.Ytaglidlibocgpaa
