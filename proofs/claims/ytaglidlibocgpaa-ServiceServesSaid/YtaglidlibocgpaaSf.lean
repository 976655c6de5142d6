/-
  The law ServiceServes's walk.
-/
import Derived.Test.YtaglidlibocgpaaSe
namespace Go.Proofs.Ytaglidlibocgpaa
open Go.RowKit

theorem srv_start {w w1 w2 : World} {keep : Int} (h : (w.alloc (.map #[] 0)).alloc (.cells #[.int .i64 keep, .int .i64 0, .map (some w.heap.size)] 71) = w1) (hb : Below w1.heap.size w1 w2) (h1 : 1 ≤ keep) (h2 : keep ≤ 256) :
    ∃ G, Srv w (w2.alloc (.cells #[.int .i64 keep, .slice none 0 0, .int .i64 0] 31)) G (w.heap.size + 1) w2.heap.size 0 ⟨keep, 0, fun _ => []⟩ [] (.slice none 0 0) := by
  have hs := solo_fresh w w w1 keep (Below.refl _ _) h
  have hz : w1.heap.size = w.heap.size + 2 := by rw [← h]; simp
  have hb2 := hb.size
  refine ⟨_, (hs.below hb).below ((Below.refl _ _).alloc (Nat.le_refl _) _), sv_ok keep h1 h2, ⟨fun c y hy => by simp at hy, fun y => by simp, List.nodup_nil⟩, heap_alloc_new w2 _, Reads.nil _ _, fun b h => by simp [Value.ownBlock] at h, ⟨by omega, fun h => by omega⟩, ⟨by simp, by simp⟩, by simp⟩

theorem two_rows (w : World) (o0 o1 : Obj) : ((w.alloc o0).alloc o1).heap[w.heap.size]? = some o0 ∧ ((w.alloc o0).alloc o1).heap[w.heap.size + 1]? = some o1 := by
  have h1 := heap_alloc_new (w.alloc o0) o1
  rw [World.size_alloc] at h1
  refine ⟨?_, h1⟩
  rw [Below.heap_alloc _ _ _ (by simp)]
  exact heap_alloc_new w o0

attribute [local irreducible] handleS answerS

set_option maxRecDepth 100000 in
set_option maxHeartbeats 8000000 in
theorem serves_any (keep : Int) (l : List Step) (a : Option Addr) (cap : Nat) (w : World) (hr : Reads w (.slice a l.length cap) l.length 5 (steps l)) (ht : ∀ x ∈ l, x.number ≤ 9223372036854775807) :
    Calls Try.prog 3 #[.int .i64 keep, .slice a l.length cap] w fun e w' => e = .returned (.bool true) ∧ Below w.heap.size w w' := by
  have hf := few_any l a cap w hr
  by_cases hfew : Few l
  · have hd : decide (Few l) = true := by simpa using hfew
    obtain ⟨hl60, hl41⟩ := hfew
    have HR := hid hr
    have HT := hid ht
    have HS41 := hid hl41
    unfold FewEnds at hf
    rw [hd] at hf
    have HF := hid hf
    clear hr ht hl41 hf hd
    by_cases hk1 : keep < 1 ∨ 256 < keep
    · have HK := hid hk1
      clear hk1
      go_enter Try.func3, Try.ntmps3
      go_wp2_with fail
      refine HF.out.mono ?_
      rintro e w1 ⟨rfl, rfl⟩
      go_wp2_with fail
      refine (newServer_bad keep _ HK.out).mono ?_
      rintro e w1 ⟨rfl, rfl⟩
      go_wp2_with fail
      refine (refNewServer_bad keep _ HK.out).mono ?_
      rintro e w2 ⟨rfl, hb2⟩
      have HB := hid (hb2.alloc hb2.size (.cells #[.int .i64 0, .slice none 0 0, .int .i64 0] 31))
      clear hb2
      go_wp2_with fail
      go_loopg [9] 1 (fun g i wr => 0 < g ∧ i = .int .i64 0 ∧ Below w.heap.size w wr)
      case atStart => exact ⟨by omega, rfl, HB.out⟩
      case round =>
        obtain ⟨_, rfl, hb⟩ := hrel
        go_wp2_with fail
        refine (awake_any _).mono ?_
        rintro e w3 ⟨rfl, hb3⟩
        go_wp2_with fail
        go_ret
        exact ⟨rfl, hb.trans (hb3.mono hb.size)⟩
    · obtain ⟨h1, h2⟩ : 1 ≤ keep ∧ keep ≤ 256 := by omega
      clear hk1
      go_enter Try.func3, Try.ntmps3
      go_wp2_with fail
      refine HF.out.mono ?_
      rintro e w1 ⟨rfl, rfl⟩
      go_wp2_with fail
      refine (newServer_ok keep _ h1 h2).mono ?_
      rintro e w1 ⟨rfl, hw1⟩
      go_wp2_with fail
      refine (refNewServer_ok keep _ h1 h2).mono ?_
      rintro e w2 ⟨rfl, hb2⟩
      have H0 := hid (srv_start hw1 hb2 h1 h2)
      clear hb2 hw1
      go_wp2_with fail
      obtain ⟨bx, hbx⟩ : ∃ bx, bx = w2.heap.size := ⟨_, rfl⟩
      rw [← hbx] at H0 ⊢
      obtain ⟨sb, hsb⟩ : ∃ sb, sb = w.heap.size + 1 := ⟨_, rfl⟩
      rw [← hsb] at H0 ⊢
      clear hbx hsb
      go_loopg [9] (l.length + 1) (fun g i wr => ∃ (k : Nat) (G : Nat → Prop) (S : Sv) (K : List Rq) (v : Value), i = .int .i64 k ∧ k ≤ l.length ∧ l.length - k < g ∧ Srv w wr G sb bx k S K v)
      case atStart =>
        obtain ⟨G, h0⟩ := H0.out
        exact ⟨0, G, _, _, _, rfl, by omega, by omega, h0⟩
      case round =>
        obtain ⟨k, G, S, K, v, rfl, hk, hg, hS⟩ := hrel
        by_cases hlt : k < l.length
        · obtain ⟨b, o, rfl⟩ := HR.out.addr (by omega)
          have hrk := HR.out.below hS.solo.old
          obtain ⟨g0, g1, g2, g3, g4⟩ := steps_get l k hlt
          have c0 := hrk.cell g0
          have c1 := hrk.cell g1
          have c2 := hrk.cell g2
          have c3 := hrk.cell g3
          have c4 := hrk.cell g4
          rw [← Nat.add_assoc] at c1 c2 c3 c4
          obtain ⟨x, hx⟩ : ∃ x, x = l[k] := ⟨_, rfl⟩
          rw [← hx] at c0 c1 c2 c3 c4
          have hxn : x.number ≤ 9223372036854775807 := HT.out x (hx ▸ List.getElem_mem _)
          have hxs : x.text.size ≤ 4100 := HS41.out x (hx ▸ List.getElem_mem _)
          have hD1 := hS.below ((Below.refl wr.heap.size wr).alloc (Nat.le_refl _) (.cells #[.int .i64 x.kind, .int .i64 x.time, .int .i64 x.client, .int .i64 x.number, .string x.text] 35))
          obtain ⟨S1, y, b1, e1, hq⟩ : ∃ S1 y b1 e1, handleS S ⟨x.client, x.number, x.text⟩ (some answerS) = (S1, y, b1, e1) := ⟨_, _, _, _, rfl⟩
          have hH := handle_solo hD1.solo hS.ok hS.done.1 (by have := hS.done.2; omega) (.func (.func 13) #[] #[]) (some answerS) (.inr ⟨rfl, rfl⟩) ⟨x.client, x.number, x.text⟩ hxn hxs hq
          have hGlt := hS.solo.sv.lt
          obtain ⟨av, capv, rfl, hcv, hmv⟩ := hS.reads.shape
          have hKl := hS.len
          have HH := hid hH
          have HS := hid hS
          have HD1 := hid hD1
          have HQ := hid hq
          have HG := hid hGlt
          clear hrk g0 g1 g2 g3 g4 hx hD1 hq hH hS hGlt
          go_wp2_with fail
          refine HH.out.mono ?_
          rintro e w2 ⟨rfl, hu2, G', hs2, hG'⟩
          obtain ⟨w3, hw3⟩ : ∃ w3, w3 = w2.alloc (.cells #[.int .i64 y.client, .int .i64 y.number, .string y.text] 37) := ⟨_, rfl⟩
          have hb3 : Below w2.heap.size w2 w3 := by rw [hw3]; exact (Below.refl _ _).alloc (Nat.le_refl _) _
          have hM := (HD1.out.handle hs2 hu2 hG').below hb3
          have bx2 : w3.cell? ⟨wr.heap.size, 2, none⟩ = some (.int .i64 x.client) := by rw [hw3]; exact box_kept HG.out hu2 2
          have bx3 : w3.cell? ⟨wr.heap.size, 3, none⟩ = some (.int .i64 x.number) := by rw [hw3]; exact box_kept HG.out hu2 3
          have bx4 : w3.cell? ⟨wr.heap.size, 4, none⟩ = some (.string x.text) := by rw [hw3]; exact box_kept HG.out hu2 4
          have hr11 : w3.heap[w2.heap.size]? = some (.cells #[.int .i64 y.client, .int .i64 y.number, .string y.text] 37) := by rw [hw3]; exact heap_alloc_new w2 _
          obtain ⟨lx, q0, q1, q2, qf⟩ := hM.cells
          have lB1 : wr.heap.size < w3.heap.size := World.block_lt_of_cell? w3 _ bx2
          have HM := hid hM
          have HW3 := hid hw3
          have HR11 := hid hr11
          have HF4 := hid qf
          clear hu2 hs2 hG' hb3 hM hw3 hr11 qf c0 c1 c2 c3 c4
          go_upto_region 12 with fail
          rw [← HW3.out]
          obtain ⟨B1, hB1⟩ : ∃ B1, B1 = wr.heap.size := ⟨_, rfl⟩
          rw [← hB1] at bx2 bx3 bx4 lB1 ⊢
          obtain ⟨B11, hB11⟩ : ∃ B11, B11 = w2.heap.size := ⟨_, rfl⟩
          rw [← hB11] at HR11 ⊢
          clear hB1 hB11
          go_cut [14, 15, 16, 17] (fun s14 s15 s16 s17 wx => After w3 S K ⟨x.client, x.number, x.text⟩ (.slice av K.length capv) s14 s15 s16 s17 wx)
          case first =>
            go_region_held3 (fun w' => w'.cell? ⟨bx, 0, none⟩ = some (.int .i64 S.keep) ∧ w'.cell? ⟨bx, 1, none⟩ = some (.slice av K.length capv) ∧ w'.cell? ⟨bx, 2, none⟩ = some (.int .i64 S.done) ∧ w'.cell? ⟨B1, 2, none⟩ = some (.int .i64 x.client) ∧ w'.cell? ⟨B1, 3, none⟩ = some (.int .i64 x.number) ∧ w'.cell? ⟨B1, 4, none⟩ = some (.string x.text))
              (first | go_keep | (refine ⟨?_, ?_, ?_, ?_, ?_, ?_⟩ <;> (repeat (first | rw [World.cell?_setCell_other _ _ _ _ (by intro h; simp only [Addr.mk.injEq] at h; omega)] | rw [World.cell?_alloc_lt _ _ _ (by simp; omega)])) <;> assumption))
              (first
                | (go_at_call 13
                   first
                     | (refine (answer_any _ w3.drew hxs).mono ?_; rintro e w' ⟨rfl, rfl⟩)
                     | (refine (answer_any _ _ hxs).mono ?_; rintro e w' ⟨rfl, rfl⟩))
                | (go_at_call 14
                   refine (rh_at HM.out HS.out.ok (by omega) HS.out.done.1 (by have := HS.out.done.2; omega) x.client x.number x.text hxs w3.drew (Below.refl w3.heap.size w3).drew).mono ?_
                   rintro e w4 ⟨K', done', a4, cap4, z, bz, er, rfl, hgot⟩
                   have m0 := (hgot.below.cell (p := ⟨bx, 0, none⟩) lx).trans q0
                   have m1 := (hgot.below.cell (p := ⟨bx, 1, none⟩) lx).trans q1
                   have m2 := (hgot.below.cell (p := ⟨bx, 2, none⟩) lx).trans q2
                   have m3 := (hgot.below.cell (p := ⟨B1, 2, none⟩) lB1).trans bx2
                   have m4 := (hgot.below.cell (p := ⟨B1, 3, none⟩) lB1).trans bx3
                   have m5 := (hgot.below.cell (p := ⟨B1, 4, none⟩) lB1).trans bx4
                   have HGOT := hid hgot
                   clear hgot)
                | (go_at_call 14
                   refine (rh_at HM.out HS.out.ok (by omega) HS.out.done.1 (by have := HS.out.done.2; omega) x.client x.number x.text hxs (w3.alloc (.cells #[.int .i64 0, .slice none 0 0, .int .i64 0] 31)).drew (((Below.refl w3.heap.size w3).alloc (Nat.le_refl _) (.cells #[.int .i64 0, .slice none 0 0, .int .i64 0] 31)).drew)).mono ?_
                   rintro e w4 ⟨K', done', a4, cap4, z, bz, er, rfl, hgot⟩
                   have m0 := (hgot.below.cell (p := ⟨bx, 0, none⟩) lx).trans q0
                   have m1 := (hgot.below.cell (p := ⟨bx, 1, none⟩) lx).trans q1
                   have m2 := (hgot.below.cell (p := ⟨bx, 2, none⟩) lx).trans q2
                   have m3 := (hgot.below.cell (p := ⟨B1, 2, none⟩) lB1).trans bx2
                   have m4 := (hgot.below.cell (p := ⟨B1, 3, none⟩) lB1).trans bx3
                   have m5 := (hgot.below.cell (p := ⟨B1, 4, none⟩) lB1).trans bx4
                   have ra := (hgot.belowW.block w3.heap.size (by simp)).trans (heap_alloc_new w3 (.cells #[.int .i64 0, .slice none 0 0, .int .i64 0] 31))
                   have sa0 : w4.cell? ⟨w3.heap.size, 0, none⟩ = some (.int .i64 0) := (cell_of_row w4 w3.heap.size 0 _ _ _ ra).trans rfl
                   have sa1 : w4.cell? ⟨w3.heap.size, 1, none⟩ = some (.slice none 0 0) := (cell_of_row w4 w3.heap.size 1 _ _ _ ra).trans rfl
                   have sa2 : w4.cell? ⟨w3.heap.size, 2, none⟩ = some (.int .i64 0) := (cell_of_row w4 w3.heap.size 2 _ _ _ ra).trans rfl
                   have fa : ∀ o, w4.frozen? ⟨w3.heap.size, o, none⟩ = false := fun o => frozen_of_row w4 w3.heap.size o _ _ ra
                   have la : w3.heap.size < w4.heap.size := World.block_lt_of_cell? w4 _ sa0
                   have Ra := hid ra
                   clear ra
                   have HGOT := hid hgot
                   clear hgot)
                | (go_at_call 14
                   refine (rh_at HM.out HS.out.ok (by omega) HS.out.done.1 (by have := HS.out.done.2; omega) x.client x.number x.text hxs (w3.alloc (.cells #[.int .i64 0, .int .i64 0, .string ⟨#[]⟩] 41)).drew (((Below.refl w3.heap.size w3).alloc (Nat.le_refl _) (.cells #[.int .i64 0, .int .i64 0, .string ⟨#[]⟩] 41)).drew)).mono ?_
                   rintro e w4 ⟨K', done', a4, cap4, z, bz, er, rfl, hgot⟩
                   have m0 := (hgot.below.cell (p := ⟨bx, 0, none⟩) lx).trans q0
                   have m1 := (hgot.below.cell (p := ⟨bx, 1, none⟩) lx).trans q1
                   have m2 := (hgot.below.cell (p := ⟨bx, 2, none⟩) lx).trans q2
                   have m3 := (hgot.below.cell (p := ⟨B1, 2, none⟩) lB1).trans bx2
                   have m4 := (hgot.below.cell (p := ⟨B1, 3, none⟩) lB1).trans bx3
                   have m5 := (hgot.below.cell (p := ⟨B1, 4, none⟩) lB1).trans bx4
                   have rb := (hgot.belowW.block w3.heap.size (by simp)).trans (heap_alloc_new w3 (.cells #[.int .i64 0, .int .i64 0, .string ⟨#[]⟩] 41))
                   have sb0 : w4.cell? ⟨w3.heap.size, 0, none⟩ = some (.int .i64 0) := (cell_of_row w4 w3.heap.size 0 _ _ _ rb).trans rfl
                   have sb1 : w4.cell? ⟨w3.heap.size, 1, none⟩ = some (.int .i64 0) := (cell_of_row w4 w3.heap.size 1 _ _ _ rb).trans rfl
                   have sb2 : w4.cell? ⟨w3.heap.size, 2, none⟩ = some (.string ⟨#[]⟩) := (cell_of_row w4 w3.heap.size 2 _ _ _ rb).trans rfl
                   have fb : ∀ o, w4.frozen? ⟨w3.heap.size, o, none⟩ = false := fun o => frozen_of_row w4 w3.heap.size o _ _ rb
                   have lb : w3.heap.size < w4.heap.size := World.block_lt_of_cell? w4 _ sb0
                   have Rb := hid rb
                   clear rb
                   have HGOT := hid hgot
                   clear hgot)
                | (go_at_call 14
                   refine (rh_at HM.out HS.out.ok (by omega) HS.out.done.1 (by have := HS.out.done.2; omega) x.client x.number x.text hxs ((w3.alloc (.cells #[.int .i64 0, .slice none 0 0, .int .i64 0] 31)).alloc (.cells #[.int .i64 0, .int .i64 0, .string ⟨#[]⟩] 41)).drew ((((Below.refl w3.heap.size w3).alloc (Nat.le_refl _) (.cells #[.int .i64 0, .slice none 0 0, .int .i64 0] 31)).alloc (by simp) (.cells #[.int .i64 0, .int .i64 0, .string ⟨#[]⟩] 41)).drew)).mono ?_
                   rintro e w4 ⟨K', done', a4, cap4, z, bz, er, rfl, hgot⟩
                   have m0 := (hgot.below.cell (p := ⟨bx, 0, none⟩) lx).trans q0
                   have m1 := (hgot.below.cell (p := ⟨bx, 1, none⟩) lx).trans q1
                   have m2 := (hgot.below.cell (p := ⟨bx, 2, none⟩) lx).trans q2
                   have m3 := (hgot.below.cell (p := ⟨B1, 2, none⟩) lB1).trans bx2
                   have m4 := (hgot.below.cell (p := ⟨B1, 3, none⟩) lB1).trans bx3
                   have m5 := (hgot.below.cell (p := ⟨B1, 4, none⟩) lB1).trans bx4
                   have ra := (hgot.belowW.block w3.heap.size (by simp; omega)).trans (two_rows w3 (.cells #[.int .i64 0, .slice none 0 0, .int .i64 0] 31) (.cells #[.int .i64 0, .int .i64 0, .string ⟨#[]⟩] 41)).1
                   have sa0 : w4.cell? ⟨w3.heap.size, 0, none⟩ = some (.int .i64 0) := (cell_of_row w4 w3.heap.size 0 _ _ _ ra).trans rfl
                   have sa1 : w4.cell? ⟨w3.heap.size, 1, none⟩ = some (.slice none 0 0) := (cell_of_row w4 w3.heap.size 1 _ _ _ ra).trans rfl
                   have sa2 : w4.cell? ⟨w3.heap.size, 2, none⟩ = some (.int .i64 0) := (cell_of_row w4 w3.heap.size 2 _ _ _ ra).trans rfl
                   have fa : ∀ o, w4.frozen? ⟨w3.heap.size, o, none⟩ = false := fun o => frozen_of_row w4 w3.heap.size o _ _ ra
                   have la : w3.heap.size < w4.heap.size := World.block_lt_of_cell? w4 _ sa0
                   have Ra := hid ra
                   clear ra
                   have rb := (hgot.belowW.block (w3.heap.size + 1) (by simp)).trans (two_rows w3 (.cells #[.int .i64 0, .slice none 0 0, .int .i64 0] 31) (.cells #[.int .i64 0, .int .i64 0, .string ⟨#[]⟩] 41)).2
                   have sb0 : w4.cell? ⟨(w3.heap.size + 1), 0, none⟩ = some (.int .i64 0) := (cell_of_row w4 (w3.heap.size + 1) 0 _ _ _ rb).trans rfl
                   have sb1 : w4.cell? ⟨(w3.heap.size + 1), 1, none⟩ = some (.int .i64 0) := (cell_of_row w4 (w3.heap.size + 1) 1 _ _ _ rb).trans rfl
                   have sb2 : w4.cell? ⟨(w3.heap.size + 1), 2, none⟩ = some (.string ⟨#[]⟩) := (cell_of_row w4 (w3.heap.size + 1) 2 _ _ _ rb).trans rfl
                   have fb : ∀ o, w4.frozen? ⟨(w3.heap.size + 1), o, none⟩ = false := fun o => frozen_of_row w4 (w3.heap.size + 1) o _ _ rb
                   have lb : (w3.heap.size + 1) < w4.heap.size := World.block_lt_of_cell? w4 _ sb0
                   have Rb := hid rb
                   clear rb
                   have HGOT := hid hgot
                   clear hgot)
                | (go_at_call 14
                   refine (rh_at HM.out HS.out.ok (by omega) HS.out.done.1 (by have := HS.out.done.2; omega) x.client x.number x.text hxs ((w3.alloc (.cells #[.int .i64 0, .int .i64 0, .string ⟨#[]⟩] 41)).alloc (.cells #[.int .i64 0, .slice none 0 0, .int .i64 0] 31)).drew ((((Below.refl w3.heap.size w3).alloc (Nat.le_refl _) (.cells #[.int .i64 0, .int .i64 0, .string ⟨#[]⟩] 41)).alloc (by simp) (.cells #[.int .i64 0, .slice none 0 0, .int .i64 0] 31)).drew)).mono ?_
                   rintro e w4 ⟨K', done', a4, cap4, z, bz, er, rfl, hgot⟩
                   have m0 := (hgot.below.cell (p := ⟨bx, 0, none⟩) lx).trans q0
                   have m1 := (hgot.below.cell (p := ⟨bx, 1, none⟩) lx).trans q1
                   have m2 := (hgot.below.cell (p := ⟨bx, 2, none⟩) lx).trans q2
                   have m3 := (hgot.below.cell (p := ⟨B1, 2, none⟩) lB1).trans bx2
                   have m4 := (hgot.below.cell (p := ⟨B1, 3, none⟩) lB1).trans bx3
                   have m5 := (hgot.below.cell (p := ⟨B1, 4, none⟩) lB1).trans bx4
                   have rb := (hgot.belowW.block w3.heap.size (by simp; omega)).trans (two_rows w3 (.cells #[.int .i64 0, .int .i64 0, .string ⟨#[]⟩] 41) (.cells #[.int .i64 0, .slice none 0 0, .int .i64 0] 31)).1
                   have sb0 : w4.cell? ⟨w3.heap.size, 0, none⟩ = some (.int .i64 0) := (cell_of_row w4 w3.heap.size 0 _ _ _ rb).trans rfl
                   have sb1 : w4.cell? ⟨w3.heap.size, 1, none⟩ = some (.int .i64 0) := (cell_of_row w4 w3.heap.size 1 _ _ _ rb).trans rfl
                   have sb2 : w4.cell? ⟨w3.heap.size, 2, none⟩ = some (.string ⟨#[]⟩) := (cell_of_row w4 w3.heap.size 2 _ _ _ rb).trans rfl
                   have fb : ∀ o, w4.frozen? ⟨w3.heap.size, o, none⟩ = false := fun o => frozen_of_row w4 w3.heap.size o _ _ rb
                   have lb : w3.heap.size < w4.heap.size := World.block_lt_of_cell? w4 _ sb0
                   have Rb := hid rb
                   clear rb
                   have ra := (hgot.belowW.block (w3.heap.size + 1) (by simp)).trans (two_rows w3 (.cells #[.int .i64 0, .int .i64 0, .string ⟨#[]⟩] 41) (.cells #[.int .i64 0, .slice none 0 0, .int .i64 0] 31)).2
                   have sa0 : w4.cell? ⟨(w3.heap.size + 1), 0, none⟩ = some (.int .i64 0) := (cell_of_row w4 (w3.heap.size + 1) 0 _ _ _ ra).trans rfl
                   have sa1 : w4.cell? ⟨(w3.heap.size + 1), 1, none⟩ = some (.slice none 0 0) := (cell_of_row w4 (w3.heap.size + 1) 1 _ _ _ ra).trans rfl
                   have sa2 : w4.cell? ⟨(w3.heap.size + 1), 2, none⟩ = some (.int .i64 0) := (cell_of_row w4 (w3.heap.size + 1) 2 _ _ _ ra).trans rfl
                   have fa : ∀ o, w4.frozen? ⟨(w3.heap.size + 1), o, none⟩ = false := fun o => frozen_of_row w4 (w3.heap.size + 1) o _ _ ra
                   have la : (w3.heap.size + 1) < w4.heap.size := World.block_lt_of_cell? w4 _ sa0
                   have Ra := hid ra
                   clear ra
                   have HGOT := hid hgot
                   clear hgot))
            all_goals
              go_wp2_with fail
              go_meet
              first
                | with_reducible exact after_1 HGOT.out
                | with_reducible exact after_2 HGOT.out
                | with_reducible exact after_3 HGOT.out (by constructor <;> simp) Ra.out
                | with_reducible exact after_4 HGOT.out (by constructor <;> simp) Rb.out
                | with_reducible exact after_5 HGOT.out (by constructor <;> simp <;> omega) (by constructor <;> simp <;> omega) (by simp) Ra.out Rb.out
          case rest =>
            obtain ⟨B4, B5, v', K', done', z, bz, er, rfl, rfl, rfl, rfl, hbx, h4, h5, r4, r5, hrd, hown, hway⟩ := hcut
            obtain ⟨S', hq', hE, hok', hdn, hkp, hKl', hd0, hd1⟩ := Eqv.step HS.out.eqv HS.out.ok hxn hway
            rw [HQ.out] at hq'
            simp only [Prod.mk.injEq] at hq'
            obtain ⟨rfl, rfl, rfl, rfl⟩ := hq'
            obtain ⟨a4, cap4, rfl, hc4, hm4⟩ := hrd.shape
            have s0 := HS.out.done
            have hN := HM.out.next (k := k + 1) hbx hrd hown hok' hE hkp (by omega) (by omega) (by omega) rfl hdn.symm
            have b40 : wc.cell? ⟨B4, 0, none⟩ = some (.int .i64 S.keep) := (cell_of_row wc B4 0 _ _ _ r4).trans rfl
            have b41 : wc.cell? ⟨B4, 1, none⟩ = some (.slice a4 K'.length cap4) := (cell_of_row wc B4 1 _ _ _ r4).trans rfl
            have b42 : wc.cell? ⟨B4, 2, none⟩ = some (.int .i64 done') := (cell_of_row wc B4 2 _ _ _ r4).trans rfl
            obtain ⟨lx5, p0, p1, p2, pf⟩ := (HM.out.below hbx).cells
            have hB11 : B11 < w3.heap.size := (Array.getElem?_eq_some_iff.1 HR11.out).1
            have r11 := (hbx.block B11 hB11).trans HR11.out
            have hne11 : B11 ≠ bx := by
              intro e
              have h1 := HM.out.row
              rw [← e, HR11.out] at h1
              simp at h1
            have hne5 : B5 ≠ bx := by omega
            have HNN := hid hN
            have HR5 := hid r5
            have HR11' := hid r11
            have HDN := hid hdn
            clear hN hbx hrd hown hway hE hok' hdn hkp r4 r5 r11 bx2 bx3 bx4 q0 q1 q2
            go_upto_region 14 with fail
            obtain ⟨w5, hw5⟩ : ∃ w5, w5 = ((wc.setCell ⟨bx, 0, none⟩ (.int .i64 S.keep)).setCell ⟨bx, 1, none⟩ (.slice a4 K'.length cap4)).setCell ⟨bx, 2, none⟩ (.int .i64 done') := ⟨_, rfl⟩
            have t2 : w5.cell? ⟨bx, 2, none⟩ = some (.int .i64 S1.done) := by rw [hw5]; exact (cell_of_row _ bx 2 _ _ _ HNN.out.row).trans rfl
            have h511 : w5.heap[B11]? = some (.cells #[.int .i64 y.client, .int .i64 y.number, .string y.text] 37 (0, 0)) := by rw [hw5, row_three_other _ _ _ _ hne11]; exact HR11'.out
            have h55 : w5.heap[B5]? = some (.cells #[.int .i64 y.client, .int .i64 y.number, .string y.text] 41 (0, 0)) := by rw [hw5, row_three_other _ _ _ _ hne5]; exact HR5.out
            rw [← hw5] at HNN ⊢
            have t110 : w5.cell? ⟨B11, 0, none⟩ = some (.int .i64 y.client) := (cell_of_row w5 B11 0 _ _ _ h511).trans rfl
            have t111 : w5.cell? ⟨B11, 1, none⟩ = some (.int .i64 y.number) := (cell_of_row w5 B11 1 _ _ _ h511).trans rfl
            have t112 : w5.cell? ⟨B11, 2, none⟩ = some (.string y.text) := (cell_of_row w5 B11 2 _ _ _ h511).trans rfl
            have t50 : w5.cell? ⟨B5, 0, none⟩ = some (.int .i64 y.client) := (cell_of_row w5 B5 0 _ _ _ h55).trans rfl
            have t51 : w5.cell? ⟨B5, 1, none⟩ = some (.int .i64 y.number) := (cell_of_row w5 B5 1 _ _ _ h55).trans rfl
            have t52 : w5.cell? ⟨B5, 2, none⟩ = some (.string y.text) := (cell_of_row w5 B5 2 _ _ _ h55).trans rfl
            have l11 := World.block_lt_of_cell? w5 _ t110
            have l5 := World.block_lt_of_cell? w5 _ t50
            have lb := World.block_lt_of_cell? w5 _ t2
            clear hw5 h511 h55 b40 b41 b42 p0 p1 p2 pf
            go_region_held3 (fun w' => w'.cell? ⟨bx, 2, none⟩ = some (.int .i64 S1.done) ∧ w'.cell? ⟨B11, 0, none⟩ = some (.int .i64 y.client) ∧ w'.cell? ⟨B11, 1, none⟩ = some (.int .i64 y.number) ∧ w'.cell? ⟨B11, 2, none⟩ = some (.string y.text) ∧ w'.cell? ⟨B5, 0, none⟩ = some (.int .i64 y.client) ∧ w'.cell? ⟨B5, 1, none⟩ = some (.int .i64 y.number) ∧ w'.cell? ⟨B5, 2, none⟩ = some (.string y.text))
              (first | go_keep)
              (first
                | (go_at_call 15
                   refine (one_any y.client y.number y.text w5.drew).mono ?_
                   rintro e w6 ⟨rfl, hb6⟩
                   have hb56 : Below w5.heap.size w5 w6 := (Below.refl _ _).drew.trans hb6
                   have n0 := (hb56.cell (p := ⟨bx, 2, none⟩) lb).trans t2
                   have n1 := (hb56.cell (p := ⟨B11, 0, none⟩) l11).trans t110
                   have n2 := (hb56.cell (p := ⟨B11, 1, none⟩) l11).trans t111
                   have n3 := (hb56.cell (p := ⟨B11, 2, none⟩) l11).trans t112
                   have n4 := (hb56.cell (p := ⟨B5, 0, none⟩) l5).trans t50
                   have n5 := (hb56.cell (p := ⟨B5, 1, none⟩) l5).trans t51
                   have n6 := (hb56.cell (p := ⟨B5, 2, none⟩) l5).trans t52
                   have HB56 := hid hb56
                   clear hb6 hb56)
                | (go_at_call 16
                   refine (done_solo (HNN.out.solo.below HB56.out) rfl).mono ?_
                   rintro e w7 ⟨rfl, rfl⟩))
            all_goals
              go_wp2_with fail
              go_roundg (gk - 1)
              case measure => omega
              case rel => exact ⟨k + 1, G', S1, K', _, by go_num, by omega, by omega, HNN.out.below HB56.out⟩
        · have HS := hid hS
          clear hS
          go_wp2_with fail
          refine (awake_any _).mono ?_
          rintro e w3 ⟨rfl, hb3⟩
          go_wp2_with fail
          go_ret
          exact ⟨rfl, HS.out.solo.old.trans (hb3.mono HS.out.solo.old.size)⟩
  · have hd : decide (Few l) = false := by simpa using hfew
    unfold FewEnds at hf
    rw [hd] at hf
    have HF := hid hf
    clear hr hf hd hfew
    go_enter Try.func3, Try.ntmps3
    go_wp2_with fail
    refine HF.out.mono ?_
    rintro e w1 ⟨rfl, rfl⟩
    go_wp2_with fail
    refine (awake_any _).mono ?_
    rintro e w1 ⟨rfl, hb⟩
    go_wp2_with fail
    go_ret
    exact ⟨rfl, hb⟩

end Go.Proofs.Ytaglidlibocgpaa
