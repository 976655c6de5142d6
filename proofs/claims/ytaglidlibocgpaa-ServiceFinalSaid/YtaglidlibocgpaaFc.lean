/-
  The law ServiceFinal's walk.
-/
import Derived.Test.YtaglidlibocgpaaFb
import Derived.Test.YtaglidlibocgpaaX
namespace Go.Proofs.Ytaglidlibocgpaa
open Go.RowKit

theorem Try.info9 : (Try.prog.info? 9).map (fun i => (i.zero, i.size, i.bytes)) = some (some (.string ⟨#[]⟩), 1, 16) := by kernel_rfl
theorem Try.info26 : (Try.prog.info? 26).map (fun i => (i.zero, i.size, i.bytes)) = some (some (.int .i64 0), 1, 8) := by kernel_rfl

theorem askC_yes {C : Cl} {t : Int} {s : ByteArray} (h : (askC C t s).2.2 = 0) : askC C t s = ({ C with calls := C.calls ++ [⟨s, t, 0, 0, ⟨#[]⟩⟩] }, (C.calls.length : Int) + 1, 0) := by
  unfold askC at h ⊢
  split at h
  · simp at h
  · split at h
    · simp at h
    · split at h
      · simp at h
      · rename_i h1 h2 h3
        rw [if_neg h1, if_neg h2, if_neg h3]
theorem askC_no {C : Cl} {t : Int} {s : ByteArray} (h : (askC C t s).2.2 ≠ 0) : (askC C t s).1 = C := by
  unfold askC at h ⊢
  split
  · rfl
  · split
    · rfl
    · split
      · rfl
      · rename_i h1 h2 h3
        rw [if_neg h1, if_neg h2, if_neg h3] at h
        exact absurd rfl h

/-- The state of the law at the head of a step, and (n short of all) in its inner loop. -/
def FinS (w0 : World) (cb : Nat) (k : Nat) (C : Cl) (n : Nat) (vr vs : Value) (wr : World) : Prop :=
  ∃ F lr le, Fin3 w0 wr F cb C vr vs lr le ∧ ClOk C ∧ Noted C lr le n ∧ C.calls.length ≤ k

attribute [local irreducible] pollC failC askC replyC resultC

set_option maxRecDepth 100000 in
set_option maxHeartbeats 2000000 in
theorem final_any (l : List Step) (a : Option Addr) (cap : Nat) (w : World) (hr : Reads w (.slice a l.length cap) l.length 5 (steps l)) (ht : ∀ x ∈ l, x.time ≤ 9223372036854775807) :
    Calls Try.prog 5 #[.slice a l.length cap] w fun e w' => e = .returned (.bool true) ∧ Below w.heap.size w w' := by
  obtain ⟨i9, hi9, hz90, hz91, hz92⟩ := info_parts Try.info9
  obtain ⟨i26, hi26, hz260, hz261, hz262⟩ := info_parts Try.info26
  have hf := few_any l a cap w hr
  by_cases hfew : Few l
  · have hd : decide (Few l) = true := by simpa using hfew
    obtain ⟨hl60, hl41⟩ := hfew
    have HR := hid hr
    have HT := hid ht
    have HS41 := hid hl41
    unfold FewEnds at hf
    rw [hd] at hf
    have HF := hid hf
    clear hr ht hl41 hf hd
    go_enter Try.func5, Try.ntmps5
    go_wp2_with fail
    refine HF.out.mono ?_
    rintro e w1 ⟨rfl, rfl⟩
    go_wp2_with fail
    refine (newClient_ok 1 10 2 _ (by decide) (by decide) (by decide) (by decide) (by decide)).mono ?_
    rintro e w1 ⟨rfl, hw1⟩
    have h0 : FinS w w.heap.size 0 ⟨1, 10, 2, []⟩ 0 (.slice none 0 0) (.slice none 0 0) w1 := by
      subst hw1
      exact ⟨_, [], [], ⟨(Below.refl _ _).alloc (Nat.le_refl _) _, cl_fresh w 1 10 2, fun k hk => by omega, World.ownsRow_nil _ _ _ _, World.ownsRow_nil _ _ _ _, by simp [Value.ownBlock], by simp [Value.ownBlock], by simp [Value.ownBlock]⟩,
        ⟨by decide, by decide, by decide, by decide, by decide, by simp, by simp⟩, ⟨rfl, rfl, fun k h => by simp at h⟩, by simp⟩
    have H0 := hid h0
    clear h0 hw1
    go_wp2_with fail
    go_loopg [5, 6, 7, 8] (l.length + 1) (fun g vn vr vs i wr => ∃ k C, i = .int .i64 (k : Nat) ∧ vn = .int .i64 (C.calls.length : Nat) ∧ k ≤ l.length ∧ l.length - k < g ∧ FinS w w.heap.size k C C.calls.length vr vs wr)
    case atStart => exact ⟨0, _, rfl, rfl, by omega, by omega, H0.out⟩
    case round =>
      obtain ⟨k, C, rfl, rfl, hk, hg, hS⟩ := hrel
      by_cases hlt : k < l.length
      · obtain ⟨F, lr, le, D, ok, N, hCk⟩ := hS
        obtain ⟨b, o, rfl⟩ := HR.out.addr (by omega)
        have hrk := HR.out.below D.old
        obtain ⟨g0, g1, g2, g3, g4⟩ := steps_get l k hlt
        have c0 := hrk.cell g0
        have c1 := hrk.cell g1
        have c2 := hrk.cell g2
        have c3 := hrk.cell g3
        have c4 := hrk.cell g4
        rw [← Nat.add_assoc] at c1 c2 c3 c4
        obtain ⟨x, hx⟩ : ∃ x, x = l[k] := ⟨_, rfl⟩
        rw [← hx] at c0 c1 c2 c3 c4
        have hxt : x.time ≤ 9223372036854775807 := HT.out x (hx ▸ List.getElem_mem _)
        have hxs : x.text.size ≤ 4100 := HS41.out x (hx ▸ List.getElem_mem _)
        have HD := hid (D.below ((Below.refl wr.heap.size wr).alloc (Nat.le_refl _) (.cells #[.int .i64 x.kind, .int .i64 x.time, .int .i64 x.client, .int .i64 x.number, .string x.text] 35)))
        have HOK := hid ok
        have HN := hid N
        have hfew := ok.few
        clear D ok N hrk g0 g1 g2 g3 g4 hx
        go_upto_block 2 with fail
        clear c0 c1 c2 c3 c4
        go_cut [5, 6, 7] (fun s5 s6 s7 wx => ∃ C', s5 = .int .i64 (C'.calls.length : Nat) ∧ FinS w w.heap.size (k + 1) C' 0 s6 s7 wx)
        case first =>
          have hlr : lr.length ≤ 1000 := by rw [HN.out.1]; exact hfew
          have hle : le.length ≤ 1000 := by rw [HN.out.2.1]; exact hfew
          by_cases h0 : x.kind = 0
          · have e0 : (x.kind == 0) = true := by simpa using h0
            clear h0
            by_cases hA : (askC C x.time x.text).2.2 = 0
            · have hcall := ask_at w.heap.size F C x.time x.text _ HD.out.cl hfew hxs
              have hm := mono_ask C x.time x.text
              have hok := askC_ok HOK.out x.time x.text (by omega)
              rw [askC_yes hA] at hcall hm hok
              have HC := hid hcall
              have HM := hid hm
              have HOK' := hid hok
              clear hcall hm hok hA
              go_wp2_with fail
              refine HC.out.mono ?_
              rintro e w3 ⟨rfl, hto⟩
              obtain ⟨F', hD⟩ := HD.out.ask hto
              have HD3 := hid hD
              have hs3 := hD.old.size
              have HN1 := hid (news_alloc w3 (strs [⟨#[]⟩]) 9)
              clear hto hD
              go_wp2_with (first
                | (at_builtin; refine wpList_append_own_at _ rfl (.tmp 60) (.tmp 61) 52 rfl w.heap.size 9 i9 _ 1 16 Try.underlying52 hi9 hz90 hz91 hz92 rfl (by decide) u6 lr.length (strs lr) rfl (HD3.out.rr.alloc _) ⟨w3.heap.size, 0, none⟩ 1 1 (strs [⟨#[]⟩]) rfl rfl HN1.out (strs_one _) (by unfold maxLen; omega) (by omega) (by simp; omega) ?_; intro v5 w5 hown5 hgrow hnil hloc; have HD5 := hid ((HD3.out.below ((Below.refl _ _).alloc (Nat.le_refl _) _)).appR hgrow hown5 hloc); have hs5 := HD5.out.old.size; have HN2 := hid (news_alloc w5 (nums [10]) 26); clear hown5 hgrow hnil hloc)
                | (at_builtin; refine wpList_append_own_at _ rfl (.tmp 63) (.tmp 64) 53 rfl w.heap.size 26 i26 _ 1 8 Try.underlying53 hi26 hz260 hz261 hz262 rfl (by decide) u7 le.length (nums le) rfl (HD5.out.rs.alloc _) ⟨w5.heap.size, 0, none⟩ 1 1 (nums [10]) rfl rfl HN2.out (nums_one _) (by unfold maxLen; omega) (by omega) (by simp; omega) ?_; intro v7 w7 hown7 hgrow hnil hloc; have HD7 := hid ((HD5.out.below ((Below.refl _ _).alloc (Nat.le_refl _) _)).appS hgrow hown7 hloc); clear hown7 hgrow hnil hloc))
              go_meet
              exact ⟨_, by simp, F', _, _, HD7.out, HOK'.out, HN.out.ask HM.out (by simp), by simp; omega⟩
            · have hcall := ask_at w.heap.size F C x.time x.text _ HD.out.cl hfew hxs
              rw [askC_no hA] at hcall
              obtain ⟨n, hn⟩ : ∃ n, n = (askC C x.time x.text).2.1 := ⟨_, rfl⟩
              obtain ⟨er, her⟩ : ∃ er, er = (askC C x.time x.text).2.2 := ⟨_, rfl⟩
              rw [← hn, ← her] at hcall
              have her0 : (er == 0) = false := by rw [her]; simpa using hA
              have HC := hid hcall
              clear hcall hn her hA
              go_wp2_with fail
              refine HC.out.mono ?_
              rintro e w3 ⟨rfl, hto⟩
              obtain ⟨F', hD⟩ := HD.out.ask hto
              have HD3 := hid hD
              clear hto hD
              go_wp2_with fail
              go_meet
              exact ⟨C, rfl, F', lr, le, HD3.out, HOK.out, HN.out.step (Mono.refl C) rfl, by omega⟩
          · have e0 : (x.kind == 0) = false := by simpa using h0
            by_cases h1 : x.kind = 1
            · have e1 : (x.kind == 1) = true := by simpa using h1
              clear h0 h1
              go_wp2_with fail
              refine (poll_at w.heap.size F C x.time _ HD.out.cl HOK.out hxt).mono ?_
              rintro e w3 ⟨vo, rfl, _, hcl⟩
              have HD3 := hid (HD.out.turn hcl)
              clear hcl
              go_wp2_with fail
              go_meet
              exact ⟨_, by rw [pollC_len], F, lr, le, HD3.out, pollC_ok HOK.out _, HN.out.step (mono_poll C _) (pollC_len C _), by rw [pollC_len]; omega⟩
            · have e1 : (x.kind == 1) = false := by simpa using h1
              by_cases h2 : x.kind = 2
              · have e2 : (x.kind == 2) = true := by simpa using h2
                clear h0 h1 h2
                go_wp2_with fail
                refine (reply_at w.heap.size F C ⟨1, x.number, x.text⟩ _ HD.out.cl hfew (by unfold maxLen; show x.text.size ≤ _; omega)).mono ?_
                rintro e w3 ⟨rfl, hcl⟩
                have HD3 := hid (HD.out.turn hcl)
                clear hcl
                go_wp2_with fail
                go_meet
                exact ⟨_, by rw [replyC_len], F, lr, le, HD3.out, replyC_ok HOK.out _, HN.out.step (mono_reply C _) (replyC_len C _), by rw [replyC_len]; omega⟩
              · have e2 : (x.kind == 2) = false := by simpa using h2
                clear h0 h1 h2
                go_wp2_with fail
                refine (failed_at w.heap.size F C x.time _ HD.out.cl HOK.out).mono ?_
                rintro e w3 ⟨vo, rfl, _, hcl⟩
                have HD3 := hid (HD.out.turn hcl)
                clear hcl
                go_wp2_with fail
                go_meet
                exact ⟨_, by rw [failC_len], F, lr, le, HD3.out, failC_ok HOK.out _, HN.out.step (mono_fail C _) (failC_len C _), by rw [failC_len]; omega⟩
        case rest =>
          obtain ⟨C', rfl, hS⟩ := hcut
          have HS := hid hS
          clear hS HD HN HOK hfew hCk
          go_wp2_with fail
          go_loopg [12] (C'.calls.length + 1) (fun g i wi => ∃ n : Nat, i = .int .i64 ((n : Int) + 1) ∧ n ≤ C'.calls.length ∧ C'.calls.length - n < g ∧ FinS w w.heap.size (k + 1) C' n u6 u7 wi)
          case atStart => exact ⟨0, by rfl, by omega, by omega, HS.out⟩
          case round =>
            obtain ⟨n, rfl, hn, hgn, hS⟩ := hrel
            by_cases hnl : n < C'.calls.length
            · obtain ⟨F, lr, le, D, ok, N, hCk⟩ := hS
              have hlr : n < lr.length := by rw [N.1]; exact hnl
              have hle : n < le.length := by rw [N.2.1]; exact hnl
              obtain ⟨gr, capr, rfl, _, hcr, hmr⟩ := owns_some D.rr (fun e => by have := D.rr.2; subst e; rcases this with ⟨_, h⟩ | ⟨_, _, _, h, _⟩; omega; cases h)
              obtain ⟨gs, caps, rfl, _, hcs, hms⟩ := owns_some D.rs (fun e => by have := D.rs.2; subst e; rcases this with ⟨_, h⟩ | ⟨_, _, _, h, _⟩; omega; cases h)
              have hap : gr ≠ gs := fun e => D.apRS gr rfl (by rw [e]; rfl)
              have xr : wr.cell? ⟨gr, n, none⟩ = some (.string (lr[n]'(by omega))) := by rw [D.rr.cellAt n (by omega), strs_get lr n (by omega)]
              have xs : wr.cell? ⟨gs, n, none⟩ = some (.int .i64 (le[n]'(by omega))) := by rw [D.rs.cellAt n (by omega), nums_get le n (by omega)]
              have fr := D.rr.frozenAt n
              have fs := D.rs.frozenAt n
              have hres := result_at2 w.heap.size F C' ((n : Int) + 1) wr D.cl ok.few
              rw [resultC_at C' n hnl] at hres
              have hnt := N.2.2 n hnl (by omega) (by omega)
              have hset := N.set hnl
              have herr := resOf_err C'.calls[n]
              obtain ⟨s, hs⟩ : ∃ s, s = (resOf C'.calls[n]).1 := ⟨_, rfl⟩
              obtain ⟨er, her⟩ : ∃ er, er = (resOf C'.calls[n]).2 := ⟨_, rfl⟩
              obtain ⟨z, hz⟩ : ∃ z, z = lr[n]'(by omega) := ⟨_, rfl⟩
              obtain ⟨q, hq⟩ : ∃ q, q = le[n]'(by omega) := ⟨_, rfl⟩
              rw [← hs, ← her] at hres hset
              rw [← her] at herr
              rw [← hz, ← hq] at hnt
              rw [← hz] at xr
              rw [← hq] at xs
              have hnt2 : q ≠ 10 → s = z ∧ er = q := fun h => by rw [hs, her, hnt (.inr h)]; exact ⟨rfl, rfl⟩
              have HRES := hid hres
              have HSET := hid hset
              have HD := hid D
              have HOK := hid ok
              clear hres hset hnt hs her hz hq D ok N
              by_cases hq : q = 10
              · subst hq
                have HX := hid hnt2
                clear hnt2
                rcases herr with rfl | rfl | rfl
                · go_wp2_with fail
                  refine HRES.out.mono ?_
                  rintro e w2 ⟨rfl, rfl⟩
                  go_wp2_with fail
                  go_roundg (gk - 1)
                  case measure => omega
                  case rel => exact ⟨n + 1, by go_num, by omega, by omega, F, _, _, HD.out.setR.setS, HOK.out, HSET.out, hCk⟩
                · go_wp2_with fail
                  refine HRES.out.mono ?_
                  rintro e w2 ⟨rfl, rfl⟩
                  go_wp2_with fail
                  go_roundg (gk - 1)
                  case measure => omega
                  case rel => exact ⟨n + 1, by go_num, by omega, by omega, F, _, _, HD.out.setR.setS, HOK.out, HSET.out, hCk⟩
                · go_wp2_with fail
                  refine HRES.out.mono ?_
                  rintro e w2 ⟨rfl, rfl⟩
                  go_wp2_with fail
                  go_roundg (gk - 1)
                  case measure => omega
                  case rel => exact ⟨n + 1, by go_num, by omega, by omega, F, _, _, HD.out.setR.setS, HOK.out, HSET.out, hCk⟩
              · obtain ⟨rfl, rfl⟩ := hnt2 hq
                clear hnt2
                rcases herr with rfl | rfl | rfl
                · exact absurd rfl hq
                · go_wp2_with fail
                  refine HRES.out.mono ?_
                  rintro e w2 ⟨rfl, rfl⟩
                  go_wp2_with fail
                  go_roundg (gk - 1)
                  case measure => omega
                  case rel => exact ⟨n + 1, by go_num, by omega, by omega, F, _, _, HD.out.setR.setS, HOK.out, HSET.out, hCk⟩
                · go_wp2_with fail
                  refine HRES.out.mono ?_
                  rintro e w2 ⟨rfl, rfl⟩
                  go_wp2_with fail
                  go_roundg (gk - 1)
                  case measure => omega
                  case rel => exact ⟨n + 1, by go_num, by omega, by omega, F, _, _, HD.out.setR.setS, HOK.out, HSET.out, hCk⟩
            · have hne : n = C'.calls.length := by omega
              subst hne
              have HS := hid hS
              clear hS
              go_wp2_with fail
              go_roundg (l.length - k)
              case measure => omega
              case rel => exact ⟨k + 1, C', by go_num, rfl, by omega, by omega, HS.out⟩
      · have HS := hid hS
        clear hS
        go_wp2_with fail
        refine (awake_any _).mono ?_
        rintro e w2 ⟨rfl, hb⟩
        go_wp2_with fail
        go_ret
        obtain ⟨F, lr, le, D, _⟩ := HS.out
        exact ⟨rfl, D.old.trans (hb.mono D.old.size)⟩
  · have hd : decide (Few l) = false := by simpa using hfew
    unfold FewEnds at hf
    rw [hd] at hf
    have HF := hid hf
    clear hr hf hd hfew
    go_enter Try.func5, Try.ntmps5
    go_wp2_with fail
    refine HF.out.mono ?_
    rintro e w1 ⟨rfl, rfl⟩
    go_wp2_with fail
    refine (awake_any _).mono ?_
    rintro e w1 ⟨rfl, hb⟩
    go_wp2_with fail
    go_ret
    exact ⟨rfl, hb⟩

end Go.Proofs.Ytaglidlibocgpaa
