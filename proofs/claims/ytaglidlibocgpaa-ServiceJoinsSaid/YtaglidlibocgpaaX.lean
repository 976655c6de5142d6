/-
  The examples of the chapter hold: awake returns true.
-/
import Derived.Test.YtaglidlibocgpaaW
namespace Go.Proofs.Ytaglidlibocgpaa
open Go.RowKit

abbrev xT : ByteArray := ⟨#[120]⟩
abbrev awC (sent state : Int) : Cl := ⟨7, 100, 3, [⟨xT, 0, sent, state, ⟨#[]⟩⟩]⟩
abbrev awS0 : Sv := ⟨2, 0, fun _ => []⟩
abbrev awR : Rq := ⟨1, 2, ⟨#[60, 116, 62]⟩⟩
abbrev awS1 : Sv := (handleS awS0 ⟨1, 2, ⟨#[116]⟩⟩ (some answerS)).1

theorem aw_ask : askC ⟨7, 100, 3, []⟩ 0 xT = (awC 0 0, 1, 0) := by kernel_rfl
theorem aw_p1 : pollC (awC 0 0) 0 = (awC 1 0, [⟨7, 1, xT⟩]) := by kernel_rfl
theorem aw_p2 : pollC (awC 1 0) 50 = (awC 1 0, []) := by kernel_rfl
theorem aw_p3 : pollC (awC 1 0) 250 = (awC 3 0, [⟨7, 1, xT⟩]) := by kernel_rfl
theorem aw_f1 : failC (awC 3 0) 299 = (awC 3 0, []) := by kernel_rfl
theorem aw_f2 : failC (awC 3 0) 300 = (awC 3 2, [1]) := by kernel_rfl
theorem aw_res : resultC (awC 3 2) 1 = (⟨#[]⟩, 12) := by kernel_rfl
theorem aw_h1 : (handleS awS0 ⟨1, 2, ⟨#[116]⟩⟩ (some answerS)).2 = (awR, true, 0) := by kernel_rfl
theorem aw_h2 : handleS awS1 ⟨1, 2, ⟨#[117]⟩⟩ (some answerS) = (awS1, awR, false, 0) := by kernel_rfl

theorem awC_ok (sent state : Int) : ClOk (awC sent state) := by
  refine ⟨?_, ?_, ?_, ?_, ?_, fun x hx => ?_, ?_⟩ <;> try (dsimp only; omega)
  · simp only [List.mem_singleton] at hx
    subst hx
    dsimp only
    omega
  · simp

theorem ask_duo {w0 w : World} {F G : Nat → Prop} {cb sb : Nat} {C : Cl} {S : Sv} (D : Duo w0 w F G cb sb C S) (hl : C.calls.length ≤ 1000) (t : Int) (s : ByteArray) (hs : s.size ≤ 4100) {C' : Cl} {n er : Int} (he : askC C t s = (C', n, er)) :
    Calls Try.prog 18 #[.pointer (some ⟨cb, 0, none⟩), .int .i64 t, .string s] w fun e w' => e = .returned (.tuple #[.int .i64 n, .int .i64 er]) ∧ ∃ F', Duo w0 w' F' G cb sb C' S := by
  have := ask_at cb F C t s w D.cl hl hs
  rw [he] at this
  exact this.mono fun e w' ⟨h1, h2⟩ => ⟨h1, D.ask h2⟩
theorem poll_duo {w0 w : World} {F G : Nat → Prop} {cb sb : Nat} {C : Cl} {S : Sv} (D : Duo w0 w F G cb sb C S) (ok : ClOk C) (t : Int) (ht : t ≤ 9223372036854775807) {C' : Cl} {l : List Rq} (he : pollC C t = (C', l)) :
    Calls Try.prog 19 #[.pointer (some ⟨cb, 0, none⟩), .int .i64 t] w fun e w' => ∃ a cap, e = .returned (.slice a l.length cap) ∧ l.length ≤ cap ∧ cap ≤ maxLen ∧ Aside w' F G (.slice a l.length cap) l.length 3 (rqs l) ∧ ClIn F cb C' w w' ∧ Duo w0 w' F G cb sb C' S := by
  have := poll_at cb F C t w D.cl ok ht
  rw [he] at this
  refine this.mono fun e w' ⟨vo, h1, h2, h3⟩ => ?_
  have A := Aside.of_owns D h2
  obtain ⟨a, cap, rfl, hc, hm⟩ := A.reads.shape
  exact ⟨a, cap, h1, hc, hm, A, h3, D.turn h3⟩
theorem failed_duo {w0 w : World} {F G : Nat → Prop} {cb sb : Nat} {C : Cl} {S : Sv} (D : Duo w0 w F G cb sb C S) (ok : ClOk C) (t : Int) {C' : Cl} {l : List Int} (he : failC C t = (C', l)) :
    Calls Try.prog 21 #[.pointer (some ⟨cb, 0, none⟩), .int .i64 t] w fun e w' => ∃ a cap, e = .returned (.slice a l.length cap) ∧ l.length ≤ cap ∧ cap ≤ maxLen ∧ Aside w' F G (.slice a l.length cap) l.length 1 (nums l) ∧ ClIn F cb C' w w' ∧ Duo w0 w' F G cb sb C' S := by
  have := failed_at cb F C t w D.cl ok
  rw [he] at this
  refine this.mono fun e w' ⟨vo, h1, h2, h3⟩ => ?_
  have A := Aside.of_owns D h2
  obtain ⟨a, cap, rfl, hc, hm⟩ := A.reads.shape
  exact ⟨a, cap, h1, hc, hm, A, h3, D.turn h3⟩
theorem result_duo {w0 w : World} {F G : Nat → Prop} {cb sb : Nat} {C : Cl} {S : Sv} (D : Duo w0 w F G cb sb C S) (hl : C.calls.length ≤ 1000) (n : Int) {s : ByteArray} {er : Int} (he : resultC C n = (s, er)) :
    Calls Try.prog 22 #[.pointer (some ⟨cb, 0, none⟩), .int .i64 n] w fun e w' => e = .returned (.tuple #[.string s, .int .i64 er]) ∧ w = w' := by
  have := result_at2 cb F C n w D.cl hl
  rw [he] at this
  exact this
theorem handle_duo2 {w0 w : World} {F G : Nat → Prop} {cb sb : Nat} {C : Cl} {S S' : Sv} (D : Duo w0 w F G cb sb C S) (ok : SvOk S) (hd0 : 0 ≤ S.done) (hd1 : S.done ≤ 1000000) (r : Rq) (hn : r.number ≤ 9223372036854775807) (hs : r.text.size ≤ 4100) {x : Rq} {b : Bool} {er : Int} (he : handleS S r (some answerS) = (S', x, b, er)) :
    Calls Try.prog 12 #[.pointer (some ⟨sb, 0, none⟩), .agg #[.int .i64 r.client, .int .i64 r.number, .string r.text], .func (.func 13) #[] #[]] w fun e w' =>
      e = .returned (.tuple #[.agg #[.int .i64 x.client, .int .i64 x.number, .string x.text], .bool b, .int .i64 er]) ∧ ∃ G', Duo w0 w' F G' cb sb C S' ∧ Upd G w w' ∧ ∀ k, G' k → G k ∨ w.heap.size ≤ k := by
  have := handle_duo D ok hd0 hd1 r hn hs
  rw [he] at this
  exact this
theorem done_duo {w0 w : World} {F G : Nat → Prop} {cb sb : Nat} {C : Cl} {S : Sv} (D : Duo w0 w F G cb sb C S) : Calls Try.prog 16 #[.pointer (some ⟨sb, 0, none⟩)] w fun e w' => e = .returned (.int .i64 S.done) ∧ w = w' := by
  obtain ⟨mb, fm, h1, _⟩ := D.sv.parts
  exact done_any sb S.done w (by rw [cell_of_row w sb 1 _ _ _ h1]; rfl)

theorem done_duo2 {w0 w : World} {F G : Nat → Prop} {cb sb : Nat} {C : Cl} {S : Sv} (D : Duo w0 w F G cb sb C S) {n : Int} (hn : S.done = n) : Calls Try.prog 16 #[.pointer (some ⟨sb, 0, none⟩)] w fun e w' => e = .returned (.int .i64 n) ∧ w = w' := by
  subst hn
  exact done_duo D

theorem awS1_ok : SvOk awS1 := handleS_ok (sv_ok 2 (by decide) (by decide)) _ _ (by decide)
theorem aw_h1' : handleS awS0 ⟨1, 2, ⟨#[116]⟩⟩ (some answerS) = (awS1, awR, true, 0) := by rw [← aw_h1]
theorem aw_done : awS1.done = 1 := by kernel_rfl

theorem aw_done0 : 0 ≤ awS1.done := by rw [aw_done]; decide
theorem aw_done1 : awS1.done ≤ 1000000 := by rw [aw_done]; decide
theorem Aside.box {w0 w : World} {F G : Nat → Prop} {cb sb : Nat} {C : Cl} {S : Sv} (D : Duo w0 w F G cb sb C S) (r : Rq) :
    Aside (w.alloc (.cells #[.int .i64 r.client, .int .i64 r.number, .string r.text] 37)) F G (.slice (some ⟨w.heap.size, 0, none⟩) 1 1) 1 3 (rqs [r]) := by
  refine ⟨⟨rfl, _, _, rfl, Nat.le_refl _, by simp [maxLen], fun h => by simp at h, fun g hg => ?_⟩, fun b hb => ?_, fun b hb hf => ?_, fun b hb hf => ?_⟩
  · cases hg
    refine ⟨rfl, fun j u hu => ?_⟩
    rw [Nat.zero_add, World.cell?_alloc_new]
    simpa [rqs, Rq.cells] using hu
  · simp only [Value.ownBlock, Option.some.injEq] at hb
    subst hb
    simp
  · simp only [Value.ownBlock, Option.some.injEq] at hb
    subst hb
    exact absurd (D.cl.lt _ hf) (Nat.lt_irrefl _)
  · simp only [Value.ownBlock, Option.some.injEq] at hb
    subst hb
    exact absurd (D.sv.lt _ hf) (Nat.lt_irrefl _)

theorem Reads.box (w : World) (r : Rq) (t : Nat) : Reads (w.alloc (.cells #[.int .i64 r.client, .int .i64 r.number, .string r.text] t)) (.slice (some ⟨w.heap.size, 0, none⟩) 1 1) 1 3 (rqs [r]) := by
  refine ⟨rfl, _, _, rfl, Nat.le_refl _, by simp [maxLen], fun h => by simp at h, fun g hg => ?_⟩
  cases hg
  refine ⟨rfl, fun j u hu => ?_⟩
  rw [Nat.zero_add, World.cell?_alloc_new]
  simpa [rqs, Rq.cells] using hu
theorem Reads.box1 (w : World) (n : Int) : Reads (w.alloc (.cells #[.int .i64 n] 3)) (.slice (some ⟨w.heap.size, 0, none⟩) 1 1) 1 1 (nums [n]) := by
  refine ⟨rfl, _, _, rfl, Nat.le_refl _, by simp [maxLen], fun h => by simp at h, fun g hg => ?_⟩
  cases hg
  refine ⟨rfl, fun j u hu => ?_⟩
  rw [Nat.zero_add, World.cell?_alloc_new]
  simpa [nums] using hu

attribute [local irreducible] pollC failC askC handleS resultC

set_option maxRecDepth 100000 in
set_option maxHeartbeats 1000000 in
theorem awake_any (w : World) : Calls Try.prog 9 #[] w fun e w' => e = .returned (.bool true) ∧ Below w.heap.size w w' := by
  go_enter Try.func9, Try.ntmps9
  go_upto_region 5 with (first
    | (go_at_call 17; refine (newClient_ok 7 100 3 _ (by decide) (by decide) (by decide) (by decide) (by decide)).mono ?_; rintro e w1 ⟨rfl, rfl⟩)
    | (go_at_call 10; refine (newServer_ok 2 _ (by decide) (by decide)).mono ?_; simp only [World.size_alloc]; rintro e w2 ⟨rfl, hw2⟩; have HD := hid (duo_fresh _ _ _ _ _ _ hw2); clear hw2))
  go_upto_region 6 with (go_at_call 18; refine (ask_duo HD.out (by decide) 0 xT (by decide) aw_ask).mono ?_; rintro e w3 ⟨rfl, F1, hD⟩; have HD := hid hD; clear hD)
  go_upto_region 7 with fail
  refine (poll_duo HD.out (awC_ok _ _) 0 (by decide) aw_p1).mono ?_
  rintro e w4 ⟨a1, c1, rfl, _, _, hA, hcl, hD⟩
  have HA := hid hA
  have HD := hid hD
  clear hD hA hcl
  go_upto_region 7 with fail
  refine (poll_duo HD.out (awC_ok _ _) 50 (by decide) aw_p2).mono ?_
  rintro e w5 ⟨a2, c2, rfl, _, _, hA, hcl, hD⟩
  have HA := hid (HA.out.turn hcl)
  have HD := hid hD
  clear hD hA hcl
  go_upto_region 7 with fail
  refine (poll_duo HD.out (awC_ok _ _) 250 (by decide) aw_p3).mono ?_
  rintro e w6 ⟨a3, c3, rfl, _, _, hA, hcl, hD⟩
  have HA := hid (HA.out.turn hcl)
  have HD := hid hD
  clear hD hA hcl
  go_upto_region 8 with fail
  refine (failed_duo HD.out (awC_ok _ _) 299 aw_f1).mono ?_
  rintro e w7 ⟨a4, c4, rfl, _, _, hA, hcl, hD⟩
  have HA := hid (HA.out.turn hcl)
  have HD := hid hD
  clear hD hA hcl
  go_upto_region 8 with fail
  refine (failed_duo HD.out (awC_ok _ _) 300 aw_f2).mono ?_
  rintro e w8 ⟨a5, c5, rfl, _, _, hA, hcl, hD⟩
  have HA := hid (HA.out.turn hcl)
  have HB := hid hA
  have HD := hid hD
  clear hD hA hcl
  go_upto_region 9 with fail
  refine (result_duo HD.out (by decide) 1 aw_res).mono ?_
  rintro e w9 ⟨rfl, rfl⟩
  go_upto_region 10 with fail
  refine (handle_duo2 HD.out (sv_ok 2 (by decide) (by decide)) (by decide) (by decide) ⟨1, 2, ⟨#[116]⟩⟩ (by decide) (by decide) aw_h1').mono ?_
  rintro e w10 ⟨rfl, G1, hD, hu, hG⟩
  have HA := hid (HA.out.handle hu hG)
  have HB := hid (HB.out.handle hu hG)
  have HD := hid hD
  clear hD hu hG
  have hb := (Below.refl w10.heap.size w10).alloc (Nat.le_refl _) (.cells #[.int .i64 1, .int .i64 2, .string ⟨#[60, 116, 62]⟩] 37)
  have HA := hid (HA.out.below hb)
  have HB := hid (HB.out.below hb)
  have HX := hid (Aside.box HD.out awR)
  have HD := hid (HD.out.below hb)
  clear hb
  go_upto_region 10 with fail
  go_wp2_with fail
  refine (handle_duo2 HD.out awS1_ok aw_done0 aw_done1 ⟨1, 2, ⟨#[117]⟩⟩ (by decide) (by decide) aw_h2).mono ?_
  rintro e w12 ⟨rfl, G2, hD, hu, hG⟩
  have HA := hid (HA.out.handle hu hG)
  have HB := hid (HB.out.handle hu hG)
  have HX := hid (HX.out.handle hu hG)
  have HD := hid hD
  clear hD hu hG
  have hb := (Below.refl w12.heap.size w12).alloc (Nat.le_refl _) (.cells #[.int .i64 1, .int .i64 2, .string ⟨#[60, 116, 62]⟩] 37)
  have HA := hid (HA.out.below hb)
  have HB := hid (HB.out.below hb)
  have HX := hid (HX.out.below hb)
  have HY := hid (Aside.box HD.out awR)
  have HD := hid (HD.out.below hb)
  clear hb
  go_wp2_with fail
  refine (plain_any [⟨7, 1, xT⟩] _ _ HA.out.reads (by decide)).mono ?_
  rintro e w13 ⟨vo, rfl, ho, hb⟩
  have hp := Reads.of_owns ho
  obtain ⟨a6, c6, rfl, _, _⟩ := hp.shape
  have HP := hid hp
  have HB := hid (HB.out.below hb)
  have HX := hid (HX.out.below hb)
  have HY := hid (HY.out.below hb)
  have HD := hid (HD.out.below hb)
  clear hb hp ho
  have hb := (Below.refl w13.heap.size w13).alloc (Nat.le_refl _) (.cells #[.int .i64 7, .int .i64 1, .string xT] 41)
  have HP := hid (HP.out.below hb)
  have HB := hid (HB.out.below hb)
  have HX := hid (HX.out.below hb)
  have HY := hid (HY.out.below hb)
  have HQ := hid (Reads.box w13 ⟨7, 1, xT⟩ 41)
  have HD := hid (HD.out.below hb)
  clear hb
  go_wp2_with fail
  refine (same_eq [⟨7, 1, xT⟩] _ _ _ HP.out HQ.out (by decide)).mono ?_
  rintro e w14 ⟨rfl, hb⟩
  have HB := hid (HB.out.below hb)
  have HX := hid (HX.out.below hb)
  have HY := hid (HY.out.below hb)
  have HD := hid (HD.out.below hb)
  clear hb
  have hb := (Below.refl w14.heap.size w14).alloc (Nat.le_refl _) (.cells #[.int .i64 1] 3)
  have HB := hid (HB.out.below hb)
  have HX := hid (HX.out.below hb)
  have HY := hid (HY.out.below hb)
  have HQ := hid (Reads.box1 w14 1)
  have HD := hid (HD.out.below hb)
  clear hb
  go_wp2_with fail
  refine (ints_eq [1] _ _ _ HB.out.reads HQ.out (by decide)).mono ?_
  rintro e w15 ⟨rfl, hb⟩
  have HX := hid (HX.out.below hb)
  have HY := hid (HY.out.below hb)
  have HD := hid (HD.out.below hb)
  clear hb
  have x0 : w15.cell? ⟨w10.heap.size, 0, none⟩ = some (.int .i64 1) := HX.out.reads.cell (j := 0) rfl
  have x1 : w15.cell? ⟨w10.heap.size, 1, none⟩ = some (.int .i64 2) := HX.out.reads.cell (j := 1) rfl
  have x2 : w15.cell? ⟨w10.heap.size, 2, none⟩ = some (.string ⟨#[60, 116, 62]⟩) := HX.out.reads.cell (j := 2) rfl
  have y0 : w15.cell? ⟨w12.heap.size, 0, none⟩ = some (.int .i64 1) := HY.out.reads.cell (j := 0) rfl
  have y1 : w15.cell? ⟨w12.heap.size, 1, none⟩ = some (.int .i64 2) := HY.out.reads.cell (j := 1) rfl
  have y2 : w15.cell? ⟨w12.heap.size, 2, none⟩ = some (.string ⟨#[60, 116, 62]⟩) := HY.out.reads.cell (j := 2) rfl
  go_wp2_with fail
  clear x0 x1 x2 y0 y1 y2
  refine (done_duo2 HD.out aw_done).mono ?_
  rintro e w16 ⟨rfl, rfl⟩
  go_wp2_with fail
  go_ret
  exact ⟨rfl, HD.out.old⟩

end Go.Proofs.Ytaglidlibocgpaa
