/-
  (*Client).Failed: the calls that fail by a time, and the client's memory behind the call.
-/
import Derived.Test.YtaglidlibocgpaaR
import Derived.BigQuiet
namespace Go.Proofs.Ytaglidlibocgpaa
open Go.RowKit

theorem Try.info3 : (Try.prog.info? 3).map (fun i => (i.zero, i.size, i.bytes)) = some (some (.int .i64 0), 1, 8) := by kernel_rfl

/-- The cells of a row of numbers. -/
def nums (l : List Int) : List Value := l.map fun n => .int .i64 n
theorem nums_append (a b : List Int) : nums (a ++ b) = nums a ++ nums b := by simp [nums]
theorem nums_one (l : List Int) : ∀ u ∈ nums l, u.oneCell' = true := by
  intro u hu
  simp only [nums, List.mem_map] at hu
  obtain ⟨n, _, rfl⟩ := hu
  rfl

theorem failed_nil (t : Int) (w : World) : Calls Try.prog 21 #[.pointer none, .int .i64 t] w fun e w' => e = .returned (.slice none 0 0) ∧ w = w' := by
  go_enter Try.func21, Try.ntmps21
  go_wp2_with fail
  go_ret
  exact ⟨rfl, rfl⟩

def FailedEnds (cb : Nat) (C : Cl) (t : Int) (v : Value) (w : World) (e : Ending) (w' : World) : Prop :=
  ∃ vo, e = .returned vo ∧ w'.ownsRow w.heap.size 3 1 vo (failC C t).2.length (nums (failC C t).2) ∧ Mem w' cb (failC C t).1 v ∧ Upd (fun k => v.ownBlock = some k) w w'

def FailR (cb : Nat) (C : Cl) (t : Int) (v : Value) (w : World) (k : Nat) (vo : Value) (wr : World) : Prop :=
  Rounds (failOne C.retry C.tries t) 3 1 (nums (failOut C.retry C.tries t 0 (C.calls.take k))) (failOut C.retry C.tries t 0 (C.calls.take k)).length cb C v w k vo wr

theorem fail_keep {cb : Nat} {C : Cl} {t : Int} {v : Value} {w : World} {k : Nat} {vo : Value} {wr w1 : World} {x : Asked} (R : FailR cb C t v w k vo wr) (hb : Below wr.heap.size wr w1) (h : k < C.calls.length) (hx : x = C.calls[k]) (hd : ¬ isLost C.retry C.tries t x = true) :
    FailR cb C t v w (k + 1) vo w1 := by
  subst hx
  have htk : C.calls.take (k + 1) = C.calls.take k ++ [C.calls[k]] := List.take_succ_eq_append_getElem h
  have hnd : failOne C.retry C.tries t C.calls[k] = C.calls[k] := by unfold failOne; rw [if_neg hd]
  unfold FailR
  rw [htk, failOut_snoc, if_neg hd, List.append_nil]
  exact Rounds.keep R hb h hnd

set_option maxRecDepth 100000 in
set_option maxHeartbeats 2000000 in
theorem failed_any (cb : Nat) (C : Cl) (t : Int) (v : Value) (w : World) (M : Mem w cb C v) (ok : ClOk C) :
    Calls Try.prog 21 #[.pointer (some ⟨cb, 0, none⟩), .int .i64 t] w (FailedEnds cb C t v w) := by
  obtain ⟨i0, hi, hz0, hz1, hz2⟩ := info_parts Try.info3
  have hcb := M.lt
  have k3 := M.c3
  have hfew := ok.few
  obtain ⟨a, cap, rfl, hcap⟩ : ∃ a cap, v = .slice a C.calls.length cap ∧ C.calls.length ≤ cap := by
    rcases M.shape with ⟨rfl, h0⟩ | ⟨g, cap, rfl, hc, _⟩
    · exact ⟨none, 0, by rw [h0], by omega⟩
    · exact ⟨_, cap, rfl, hc⟩
  have HM := hid M
  go_enter Try.func21, Try.ntmps21
  go_wp2_with fail
  go_loopg [5, 15] (C.calls.length + 1) (fun g vo i wr => ∃ k : Nat, i = .int .i64 k ∧ k ≤ C.calls.length ∧ C.calls.length - k < g ∧ FailR cb C t (.slice a C.calls.length cap) w k vo wr)
  case atStart => exact ⟨0, rfl, by omega, by omega, Rounds.start HM.out⟩
  case round =>
    obtain ⟨k, rfl, hk, hg, hR⟩ := hrel
    clear M k3
    by_cases hlt : k < C.calls.length
    · obtain ⟨g, rfl, hgw⟩ : ∃ g, a = some ⟨g, 0, none⟩ ∧ g < w.heap.size := by
        rcases HM.out.shape with ⟨e, h0⟩ | ⟨g, cap', e, _, hg⟩
        · omega
        · simp only [Value.slice.injEq, true_and] at e
          exact ⟨g, e.1, hg⟩
      have hM := Rounds.mem hR
      have c1 := hM.c1
      have c2 := hM.c2
      have c3 := hM.c3
      have hkl : k < (upTo (failOne C.retry C.tries t) C.calls k).length := by rw [upTo_length]; exact hlt
      obtain ⟨x0, x1, x2, x3, x4⟩ := hM.call (k := k) hkl
      have hx : (upTo (failOne C.retry C.tries t) C.calls k)[k] = C.calls[k] := upTo_get _ _ _ hlt
      dsimp only at c1 c2 c3 x0 x1 x2 x3 x4
      rw [hx] at x0 x1 x2 x3 x4
      have hxt := ok.time C.calls[k] (List.getElem_mem _)
      obtain ⟨x, hxx⟩ : ∃ x, x = C.calls[k] := ⟨_, rfl⟩
      rw [← hxx] at x0 x1 x2 x3 x4 hxt
      have HX := hid hxx
      have HR := hid hR
      have f3 := hM.free (k * 5 + 3)
      obtain ⟨t1, t2⟩ := hxt
      have hgr : g < wr.heap.size := hM.vlt rfl
      have hp0 : 0 ≤ C.tries * C.retry := Int.mul_nonneg (by have := ok.tries1; omega) (by have := ok.retry1; omega)
      have hp1 : C.tries * C.retry ≤ 100 * 1099511627776 := Int.mul_le_mul ok.tries2 ok.retry2 (by have := ok.retry1; omega) (by omega)
      obtain ⟨p, hp⟩ : ∃ p, p = C.tries * C.retry := ⟨_, rfl⟩
      rw [← hp] at hp0 hp1
      have hwm : IntKind.i64.wrap (C.tries * C.retry) = p := by rw [← hp, IntKind.wrap_i64]; omega
      have hwa : IntKind.i64.wrap (x.time + p) = x.time + p := by rw [IntKind.wrap_i64]; omega
      have HP := hid hp
      clear hR hM hx x0 x2 x4 hkl hxx hp
      by_cases hd : isLost C.retry C.tries t x = true
      · have hs0 : (x.state == 0) = true ∧ decide (x.time + p ≤ t) = true := by rw [HP.out]; unfold isLost at hd; simpa using hd
        obtain ⟨hs0, hs1⟩ := hs0
        have HD := hid hd
        clear hd
        go_wp2_with fail
        go_quiet (fail)
        go_upto_region 10 with fail
        have hfx : C.calls[k].cells.set 3 (.int .i64 2) = (failOne C.retry C.tries t C.calls[k]).cells := by
          rw [← HX.out]
          unfold failOne
          rw [if_pos HD.out]
          rfl
        have hb1 : Below wr.heap.size wr (wr.drewN nq) := ⟨rfl, rfl, rfl, Nat.le_refl _, fun _ _ => rfl⟩
        have hH := Rounds.hit HR.out hb1 hlt (by omega) hfx hgw
        obtain ⟨w2, hw2⟩ : ∃ w2, w2 = (wr.drewN nq).setCell ⟨g, k * 5 + 3, none⟩ (.int .i64 2) := ⟨_, rfl⟩
        rw [← hw2] at hH ⊢
        have HH := hid hH
        have HOWN := hid hH.2.1
        have hws : w.heap.size ≤ w2.heap.size := hH.2.2.size
        have hol := failOut_length C.retry C.tries t (C.calls.take k) 0
        rw [List.length_take] at hol
        have hwr : IntKind.i64.wrap ((k : Int) + 1) = (k : Int) + 1 := by rw [IntKind.wrap_i64]; omega
        have HNEWS := hid (news_alloc w2 (nums [(k : Int) + 1]) 3)
        clear hw2 hH c1 c2 c3 x1 x3 f3 hs0 hs1 hfx hb1 hwm hwa
        go_wp2_with (at_builtin; refine wpList_append_own_at _ rfl (.tmp 50) (.tmp 53) 59 rfl w.heap.size 3 i0 _ 1 8 Try.underlying59 hi hz0 hz1 hz2 rfl (by decide) u5 _ _ rfl (HOWN.out.alloc _) ⟨w2.heap.size, 0, none⟩ 1 1 (nums [(k : Int) + 1]) rfl rfl HNEWS.out (nums_one _) (by unfold maxLen; omega) (by omega) (by simp; omega) ?_; intro v' w5 hown5 hgrow hnil hloc; have HGROW := hid hgrow; have HOWN5 := hid hown5; clear hgrow hown5 hloc hnil)
        go_roundg (gk - 1)
        case measure => omega
        case rel =>
          refine ⟨k + 1, by go_num, by omega, by omega, ?_⟩
          have htk : C.calls.take (k + 1) = C.calls.take k ++ [C.calls[k]] := List.take_succ_eq_append_getElem hlt
          have hd := HD.out
          rw [HX.out] at hd
          have hol2 : (C.calls.take k).length = k := by simp; omega
          unfold FailR
          rw [htk, failOut_snoc, if_pos hd, hol2, List.length_append, nums_append, Nat.zero_add]
          exact Rounds.out HH.out hcb (fun b hb => by cases hb; exact hgw) (o := _) rfl ⟨rfl, rfl, rfl⟩ HGROW.out HOWN5.out
      · have hsp : (x.state == 0) = false ∨ (x.state == 0) = true ∧ decide (x.time + p ≤ t) = false := by
          rw [HP.out]
          unfold isLost at hd
          cases h1 : (x.state == 0)
          · exact .inl rfl
          · rw [h1, Bool.true_and] at hd
            exact .inr ⟨rfl, by simpa using hd⟩
        have HD := hid hd
        clear hd
        rcases hsp with hs0 | ⟨hs0, hs1⟩
        · go_wp2_with fail
          go_quiet (fail)
          go_wp2_with fail
          go_roundg (gk - 1)
          case measure => omega
          case rel => exact ⟨k + 1, by go_num, by omega, by omega, fail_keep HR.out ⟨rfl, rfl, rfl, Nat.le_refl _, fun _ _ => rfl⟩ hlt HX.out HD.out⟩
        · go_wp2_with fail
          go_quiet (fail)
          go_wp2_with fail
          go_roundg (gk - 1)
          case measure => omega
          case rel => exact ⟨k + 1, by go_num, by omega, by omega, fail_keep HR.out ⟨rfl, rfl, rfl, Nat.le_refl _, fun _ _ => rfl⟩ hlt HX.out HD.out⟩
    · have hk' : k = C.calls.length := by omega
      subst hk'
      have HR := hid hR
      clear hR
      go_wp2_with fail
      go_ret
      refine ⟨_, rfl, ?_, ?_, HR.out.upd⟩
      · have := HR.out.own
        rw [List.take_of_length_le (Nat.le_refl _)] at this
        exact this
      · have := HR.out.mem
        rw [upTo_all _ _ _ (Nat.le_refl _)] at this
        exact this

end Go.Proofs.Ytaglidlibocgpaa
