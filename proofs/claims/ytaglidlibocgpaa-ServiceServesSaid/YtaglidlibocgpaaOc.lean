/-
  The law ServiceOnce's walk.
-/
import Derived.Test.YtaglidlibocgpaaOb
namespace Go.Proofs.Ytaglidlibocgpaa
open Go.RowKit

/-- One request against a history of replies. -/
theorem once_step {S : Sv} {R : List Rq} {r : Rq} {k : Nat} (H : HistOk S R) (ok : SvOk S) (hn : r.number ≤ 9223372036854775807) (hk : k < R.length) (hz : R[k] = zeroR) :
    (∃ e, e ≠ 0 ∧ handleS S r (some answerS) = (S, zeroR, false, e)) ∨
    ∃ S' T b, handleS S r (some answerS) = (S', ⟨r.client, r.number, T⟩, b, 0) ∧ SvOk S' ∧ S'.done = S.done + (if b = true then 1 else 0) ∧ (∀ h ∈ R, h.client = r.client → h.number = r.number → h.text = T ∧ b = false) ∧
      (b = true ∨ ∃ h ∈ R, h.client = r.client ∧ h.number = r.number) ∧ HistOk S' (R.set k ⟨r.client, r.number, T⟩) ∧ 1 ≤ r.client := by
  have hok := handleS_ok ok r (some answerS) hn
  have m1 : ∀ (x y : Rq), y ∈ R.set k x → 1 ≤ y.client → y ∈ R ∨ y = x := fun x y hy _ => List.mem_or_eq_of_mem_set hy
  have m2 : ∀ (x y : Rq), y ∈ R → 1 ≤ y.client → y ∈ R.set k x := by
    intro x y hy hc
    obtain ⟨j, hj, rfl⟩ := List.getElem_of_mem hy
    have hjk : k ≠ j := by
      intro e
      subst e
      rw [hz] at hc
      exact absurd hc (by decide)
    rw [List.mem_iff_getElem]
    exact ⟨j, by simpa using hj, by rw [List.getElem_set_ne hjk]⟩
  have m3 : ∀ x : Rq, x ∈ R.set k x := fun x => by
    rw [List.mem_iff_getElem]
    exact ⟨k, by simpa using hk, by simp⟩
  rcases handleS_ways S r answerS with h | ⟨h1, h2, h3, h4⟩ | ⟨h1, h2, h3, h4, h5⟩
  · exact .inl h
  · obtain ⟨x, hx, x1, x2, x3, x4⟩ := H.found ok h3
    rw [hx] at h4
    obtain ⟨xc, xn, xt⟩ := x
    dsimp only at x1 x2 x4
    subst x1 x2
    rw [h4] at hok
    refine .inr ⟨S, xt, false, h4, hok, by simp, fun y hy e1 e2 => ⟨by rw [x4 y hy e1 e2], rfl⟩, .inr ⟨_, x3, rfl, rfl⟩, ?_, h1⟩
    exact H.more (fun y hy hc => (m1 _ y hy hc).elim id (fun e => e ▸ x3)) (m2 _)
  · rw [h5] at hok
    have hf := H.fresh ok h1 h3 h4
    refine .inr ⟨_, _, true, h5, hok, by simp [servedS], fun y hy e1 e2 => absurd ⟨e1, e2⟩ (hf y hy), .inl rfl, ?_, h1⟩
    exact H.served ok h1 h2 hn h3 h4 (m1 _) (m2 _) (m3 _)

/-- The state of the law at the head of step k. -/
def OncS (w0 : World) (sb gR gW n k : Nat) (S : Sv) (wr : World) : Prop :=
  ∃ G R W, Onc w0 wr G sb S gR gW R W ∧ SvOk S ∧ HistOk S R ∧ R.length = n ∧ W.length = n ∧ (∀ j (h : j < R.length), k ≤ j → R[j] = zeroR) ∧ 0 ≤ S.done ∧ S.done ≤ k

theorem rqs_set3 (l : List Rq) (k : Nat) (x : Rq) (h : k < l.length) : (((rqs l).set (k * 3) (.int .i64 x.client)).set (k * 3 + 1) (.int .i64 x.number)).set (k * 3 + 2) (.string x.text) = rqs (l.set k x) := by
  have e1 : rqs l = rqs (l.take k) ++ (l[k].cells ++ rqs (l.drop (k + 1))) := by
    rw [← rqs_cons, ← rqs_append, List.getElem_cons_drop, List.take_append_drop]
  have e2 : l.set k x = l.take k ++ (x :: l.drop (k + 1)) := by rw [List.set_eq_take_append_cons_drop, if_pos h]
  have hl : (rqs (l.take k)).length = k * 3 := by rw [rqs_length, List.length_take, Nat.min_eq_left (by omega)]
  rw [e1, e2, rqs_append, rqs_cons, List.set_append_right _ _ (by omega), List.set_append_right _ _ (by omega), List.set_append_right _ _ (by omega), hl]
  rw [show k * 3 - k * 3 = 0 by omega, show k * 3 + 1 - k * 3 = 1 by omega, show k * 3 + 2 - k * 3 = 2 by omega]
  rfl
theorem Onc.setR {w0 w : World} {G : Nat → Prop} {sb gR gW : Nat} {S : Sv} {R : List Rq} {W : List Bool} {k : Nat} (D : Onc w0 w G sb S gR gW R W) (x : Rq) (hk : k < R.length) :
    Onc w0 (((w.setCell ⟨gR, k * 3, none⟩ (.int .i64 x.client)).setCell ⟨gR, k * 3 + 1, none⟩ (.int .i64 x.number)).setCell ⟨gR, k * 3 + 2, none⟩ (.string x.text)) G sb S gR gW (R.set k x) W := by
  have hu := ((((Upd.refl (fun b => b = gR) w).setCell (p := ⟨gR, k * 3, none⟩) (.inl rfl) (.int .i64 x.client)).setCell (p := ⟨gR, k * 3 + 1, none⟩) (.inl rfl) (.int .i64 x.number)).setCell (p := ⟨gR, k * 3 + 2, none⟩) (.inl rfl) (.string x.text))
  refine ⟨Upd.onto D.old hu (fun b hb => hb ▸ (D.rr.lt gR rfl).1), D.sv.upd hu (fun b hf hb => D.apR (hb ▸ hf)), D.newG, ?_, owns_upd D.rw hu (fun b hb hk => by cases hb; exact D.apRW hk.symm), D.apR, D.apW, D.apRW⟩
  have := (((D.rr.stored (k * 3) (.int .i64 x.client)).1.stored (k * 3 + 1) (.int .i64 x.number)).1.stored (k * 3 + 2) (.string x.text)).1
  rw [rqs_set3 R k x hk] at this
  simpa using this

theorem box_kept {G : Nat → Prop} {w w2 : World} {cs cs2 : Array Value} {t t2 : Nat} (hG : ∀ k, G k → k < w.heap.size) (hu : Upd G (w.alloc (.cells cs t)) w2) (i : Nat) : (w2.alloc (.cells cs2 t2)).cell? ⟨w.heap.size, i, none⟩ = cs[i]? := by
  have hu3 := hu.trans (Upd.of_new (F := fun _ => False) ((Below.refl w2.heap.size w2).alloc (Nat.le_refl _) (.cells cs2 t2))) (fun _ h => h.elim)
  exact (hu3.cell (p := ⟨w.heap.size, i, none⟩) (by simp) (fun h => Nat.lt_irrefl _ (hG _ h))).trans (World.cell?_alloc_new w cs t i)

theorem once_next {R : List Rq} {j : Nat} {c n : Int} (h : ∀ t (h : t < R.length), t < j → ¬ (R[t].client = c ∧ R[t].number = n)) (hj : ∀ h : j < R.length, ¬ (R[j].client = c ∧ R[j].number = n)) : ∀ t (h : t < R.length), t < j + 1 → ¬ (R[t].client = c ∧ R[t].number = n) := by
  intro t ht hlt
  rcases Nat.lt_or_ge t j with h1 | h1
  · exact h t ht h1
  · have : t = j := by omega
    subst this
    exact hj ht

theorem Reads.cells3 {w : World} {g n cap : Nat} {l : List Rq} (hr : Reads w (.slice (some ⟨g, 0, none⟩) n cap) l.length 3 (rqs l)) {j : Nat} (h : j < l.length) :
    w.cell? ⟨g, j * 3, none⟩ = some (.int .i64 l[j].client) ∧ w.cell? ⟨g, j * 3 + 1, none⟩ = some (.int .i64 l[j].number) ∧ w.cell? ⟨g, j * 3 + 2, none⟩ = some (.string l[j].text) := by
  obtain ⟨g0, g1, g2⟩ := rqs_get l j h
  have c0 := hr.cell g0
  have c1 := hr.cell g1
  have c2 := hr.cell g2
  simp only [Nat.zero_add] at c0 c1 c2
  exact ⟨c0, c1, c2⟩

/-- The state at the loop's head. -/
theorem once_start {w w1 : World} {G : Nat → Prop} {keep : Int} {n : Nat} (D : Solo w w1 G (w.heap.size + 1) ⟨keep, 0, fun _ => []⟩) (hsz : w1.heap.size = w.heap.size + 2) (h1 : 1 ≤ keep) (h2 : keep ≤ 256) (hn : n ≤ 60) :
    OncS w (w.heap.size + 1) (w.heap.size + 2) (w.heap.size + 2 + 1) n 0 ⟨keep, 0, fun _ => []⟩ ((w1.alloc (.cells (madeCells #[.int .i64 0, .int .i64 0, .string ⟨#[]⟩] (n * 3)) 37)).alloc (.cells (madeCells #[.bool false] n) 4)) := by
  have e1 := made_rqs n
  have e2 := made_bools n
  have o1 := World.ownsRow_lit (e := 37) (base := w.heap.size) (size := 3) w1 (madeCells #[.int .i64 0, .int .i64 0, .string ⟨#[]⟩] (n * 3)) n (by omega) (by unfold maxLen; omega) (by rw [size_madeCells])
  rw [e1, hsz] at o1
  obtain ⟨w2, hw2⟩ : ∃ w2, w2 = w1.alloc (.cells (madeCells #[.int .i64 0, .int .i64 0, .string ⟨#[]⟩] (n * 3)) 37) := ⟨_, rfl⟩
  have b2 : Below w1.heap.size w1 w2 := by rw [hw2]; exact (Below.refl _ _).alloc (Nat.le_refl _) _
  have s2 : w2.heap.size = w.heap.size + 3 := by rw [hw2]; simp; omega
  rw [← hw2] at o1 ⊢
  have o2 := World.ownsRow_lit (e := 4) (base := w.heap.size) (size := 1) w2 (madeCells #[.bool false] n) n (by omega) (by unfold maxLen; omega) (by rw [size_madeCells]; omega)
  rw [e2, s2] at o2
  have b3 : Below w2.heap.size w2 (w2.alloc (.cells (madeCells #[.bool false] n) 4)) := (Below.refl _ _).alloc (Nat.le_refl _) _
  have D3 := (D.below b2).below b3
  refine ⟨G, List.replicate n zeroR, List.replicate n false, ⟨D3.old, D3.sv, D3.newG, by simpa using owns_below o1 b3, by simpa using o2, fun h => ?_, fun h => ?_, by omega⟩, sv_ok keep h1 h2, ⟨fun h hh hc => ?_, fun c y hy => by simp at hy⟩, by simp, by simp, fun j h _ => by simp, by simp, by simp⟩
  · have := D.sv.lt _ h
    omega
  · have := D.sv.lt _ h
    omega
  · rw [List.mem_replicate] at hh
    rw [hh.2] at hc
    exact absurd hc (by decide)

theorem Try.info4 : (Try.prog.info? 4).map (fun i => (i.zero, i.size, i.bytes)) = some (some (.bool false), 1, 1) := by kernel_rfl

attribute [local irreducible] handleS

set_option maxRecDepth 100000 in
set_option maxHeartbeats 2000000 in
theorem once_any (keep : Int) (l : List Step) (a : Option Addr) (cap : Nat) (w : World) (hr : Reads w (.slice a l.length cap) l.length 5 (steps l)) (ht : ∀ x ∈ l, x.number ≤ 9223372036854775807) :
    Calls Try.prog 4 #[.int .i64 keep, .slice a l.length cap] w fun e w' => e = .returned (.bool true) ∧ Below w.heap.size w w' := by
  obtain ⟨i37, hi37, hz370, hz371, hz372⟩ := info_parts Try.info37
  obtain ⟨i4, hi4, hz40, hz41, hz42⟩ := info_parts Try.info4
  have hf := few_any l a cap w hr
  by_cases hfew : Few l
  · have hd : decide (Few l) = true := by simpa using hfew
    obtain ⟨hl60, hl41⟩ := hfew
    have HR := hid hr
    have HT := hid ht
    have HS41 := hid hl41
    unfold FewEnds at hf
    rw [hd] at hf
    have HF := hid hf
    clear hr ht hl41 hf hd
    by_cases hk1 : keep < 1
    · go_enter Try.func4, Try.ntmps4
      go_wp2_with fail
      refine HF.out.mono ?_
      rintro e w1 ⟨rfl, rfl⟩
      go_wp2_with fail
      refine (newServer_bad keep _ (.inl hk1)).mono ?_
      rintro e w1 ⟨rfl, rfl⟩
      go_wp2_with fail
      refine (awake_any _).mono ?_
      rintro e w1 ⟨rfl, hb⟩
      go_wp2_with fail
      go_ret
      exact ⟨rfl, hb⟩
    · by_cases hk2 : 256 < keep
      · go_enter Try.func4, Try.ntmps4
        go_wp2_with fail
        refine HF.out.mono ?_
        rintro e w1 ⟨rfl, rfl⟩
        go_wp2_with fail
        refine (newServer_bad keep _ (.inr hk2)).mono ?_
        rintro e w1 ⟨rfl, rfl⟩
        go_wp2_with fail
        refine (awake_any _).mono ?_
        rintro e w1 ⟨rfl, hb⟩
        go_wp2_with fail
        go_ret
        exact ⟨rfl, hb⟩
      · have hmk : ∀ W : World, (Instr.makeSlice 47 (.int .i64 (l.length : Int)) (.int .i64 (l.length : Int))).run Try.prog W = .ok (.slice (some ⟨W.heap.size, 0, none⟩) l.length l.length) (W.alloc (.cells (madeCells #[.int .i64 0, .int .i64 0, .string ⟨#[]⟩] (l.length * 3)) 37)) := fun W => by
          have := run_make W 47 37 i37 _ Try.underlying47 hi37 hz370 .i64 .i64 (l.length : Int) (l.length : Int) (by omega) (by omega) (by rw [hz372]; omega) (by omega)
          rw [hz371] at this
          simpa [Value.cells] using this
        have hmk2 : ∀ W : World, (Instr.makeSlice 48 (.int .i64 (l.length : Int)) (.int .i64 (l.length : Int))).run Try.prog W = .ok (.slice (some ⟨W.heap.size, 0, none⟩) l.length l.length) (W.alloc (.cells (madeCells #[.bool false] l.length) 4)) := fun W => by
          have := run_make W 48 4 i4 _ Try.underlying48 hi4 hz40 .i64 .i64 (l.length : Int) (l.length : Int) (by omega) (by omega) (by rw [hz42]; omega) (by omega)
          rw [hz41] at this
          simpa [Value.cells] using this
        clear hi37 hz370 hz371 hz372 hi4 hz40 hz41 hz42
        go_enter Try.func4, Try.ntmps4
        go_wp2_with fail
        refine HF.out.mono ?_
        rintro e w1 ⟨rfl, rfl⟩
        go_wp2_with fail
        refine (newServer_ok keep _ (by omega) (by omega)).mono ?_
        rintro e w1 ⟨rfl, hw1⟩
        have hS := solo_fresh w w w1 keep (Below.refl _ _) hw1
        have hsz : w1.heap.size = w.heap.size + 2 := by rw [← hw1]; simp
        clear hw1
        go_upto_region 8 with fail
        have h0 : OncS w (w.heap.size + 1) (w.heap.size + 2) (w.heap.size + 2 + 1) l.length 0 ⟨keep, 0, fun _ => []⟩ ((w1.alloc (.cells (madeCells #[.int .i64 0, .int .i64 0, .string ⟨#[]⟩] (l.length * 3)) 37)).alloc (.cells (madeCells #[.bool false] l.length) 4)) := once_start hS hsz (by omega) (by omega) (by omega)
        have H0 := hid h0
        clear h0 hS hmk hmk2
        go_wp2_with fail
        go_loopg [9, 10] (l.length + 1) (fun g vt i wr => ∃ k S, i = .int .i64 (k : Nat) ∧ vt = .int .i64 (S.done : Int) ∧ k ≤ l.length ∧ l.length - k < g ∧ OncS w (w.heap.size + 1) (w.heap.size + 2) (w.heap.size + 2 + 1) l.length k S wr)
        case atStart => exact ⟨0, _, rfl, rfl, by omega, by omega, H0.out⟩
        case round =>
          obtain ⟨k, S, rfl, rfl, hk, hg, hS⟩ := hrel
          by_cases hlt : k < l.length
          · obtain ⟨G, R, W, D, ok, H, hRl, hWl, hz, hd0, hd1⟩ := hS
            obtain ⟨b, o, rfl⟩ := HR.out.addr (by omega)
            have hrk := HR.out.below D.old
            obtain ⟨g0, g1, g2, g3, g4⟩ := steps_get l k hlt
            have c0 := hrk.cell g0
            have c1 := hrk.cell g1
            have c2 := hrk.cell g2
            have c3 := hrk.cell g3
            have c4 := hrk.cell g4
            rw [← Nat.add_assoc] at c1 c2 c3 c4
            obtain ⟨x, hx⟩ : ∃ x, x = l[k] := ⟨_, rfl⟩
            rw [← hx] at c0 c1 c2 c3 c4
            have hxn : x.number ≤ 9223372036854775807 := HT.out x (hx ▸ List.getElem_mem _)
            have hxs : x.text.size ≤ 4100 := HS41.out x (hx ▸ List.getElem_mem _)
            obtain ⟨r, hr⟩ : ∃ r : Rq, r = ⟨x.client, x.number, x.text⟩ := ⟨_, rfl⟩
            have hD1 := D.below ((Below.refl wr.heap.size wr).alloc (Nat.le_refl _) (.cells #[.int .i64 x.kind, .int .i64 x.time, .int .i64 x.client, .int .i64 x.number, .string x.text] 35))
            have hH := handle_any S G (w.heap.size + 1) ⟨x.client, x.number, x.text⟩ (.func (.func 13) #[] #[]) (some answerS) _ hD1.sv ok hd0 (by omega) hxn hxs (.inr ⟨rfl, rfl⟩)
            have hways := once_step (r := ⟨x.client, x.number, x.text⟩) (k := k) H ok hxn (by omega) (hz k (by omega) (Nat.le_refl _))
            have HD := hid hD1
            have HK := hid ok
            have HH := hid H
            have HZ := hid hz
            have HRL := hid hRl
            have HWL := hid hWl
            have hge := hD1.old.size
            have hGlt := D.sv.lt
            unfold HandleEnds at hH
            clear D ok H hrk g0 g1 g2 g3 g4 hx hD1 hz hRl hWl hr
            rcases hways with ⟨e, he, hw⟩ | ⟨S', T, b', hw, ok', hd', hM, hE, H', hc1⟩
            · rw [hw] at hH
              have HC := hid hH
              have he0 : (e != 0) = true := by simpa using he
              clear hH hw he
              go_wp2_with fail
              refine HC.out.mono ?_
              rintro e1 w2 ⟨rfl, hsv⟩
              obtain ⟨G', hD'⟩ := HD.out.handle hsv
              have HD2 := hid (hD'.below ((Below.refl w2.heap.size w2).alloc (Nat.le_refl _) (.cells #[.int .i64 0, .int .i64 0, .string ⟨#[]⟩] 37)))
              clear hsv hD' hGlt
              simp only [zeroR_value, zeroRq]
              go_wp2_with fail
              go_roundg (gk - 1)
              case measure => omega
              case rel => exact ⟨k + 1, S, by go_num, rfl, by omega, by omega, G', R, W, HD2.out, HK.out, HH.out, HRL.out, HWL.out, fun j h hj => HZ.out j h (by omega), hd0, by omega⟩
            · rw [hw] at hH
              have HC := hid hH
              have HOK' := hid ok'
              have HM := hid hM
              have HE := hid hE
              have HH' := hid H'
              have HDN := hid hd'
              clear hH hw ok' hM hE H' hd'
              cases b'
              · go_wp2_with fail
                refine HC.out.mono ?_
                rintro e1 w2 ⟨rfl, hsv⟩
                obtain ⟨G', hD'⟩ := HD.out.handle hsv
                have hD3 := hD'.below ((Below.refl w2.heap.size w2).alloc (Nat.le_refl _) (.cells #[.int .i64 x.client, .int .i64 x.number, .string T] 37))
                obtain ⟨_, _, hu2, _⟩ := hsv
                obtain ⟨w3, hw3⟩ : ∃ w3, w3 = w2.alloc (.cells #[.int .i64 x.client, .int .i64 x.number, .string T] 37) := ⟨_, rfl⟩
                have bx2 : w3.cell? ⟨wr.heap.size, 2, none⟩ = some (.int .i64 x.client) := by rw [hw3]; exact box_kept hGlt hu2 2
                have bx3 : w3.cell? ⟨wr.heap.size, 3, none⟩ = some (.int .i64 x.number) := by rw [hw3]; exact box_kept hGlt hu2 3
                have by0 : w3.cell? ⟨w2.heap.size, 0, none⟩ = some (.int .i64 x.client) := by rw [hw3]; simp
                have by1 : w3.cell? ⟨w2.heap.size, 1, none⟩ = some (.int .i64 x.number) := by rw [hw3]; simp
                have by2 : w3.cell? ⟨w2.heap.size, 2, none⟩ = some (.string T) := by rw [hw3]; simp
                have lx : wr.heap.size < w3.heap.size := World.block_lt_of_cell? w3 _ bx2
                have ly : w2.heap.size < w3.heap.size := World.block_lt_of_cell? w3 _ by0
                rw [← hw3] at hD3
                have HD3 := hid hD3
                have HW3 := hid hw3
                clear hD' hu2 hGlt hw3 hD3
                simp only [Rq.value]
                go_upto_region 14 with fail
                rw [← HW3.out]
                obtain ⟨B1, hB1⟩ : ∃ B1, B1 = wr.heap.size := ⟨_, rfl⟩
                rw [← hB1] at bx2 bx3 lx ⊢
                clear hB1
                go_wp2_with fail
                go_loopg [15, 16] (k + 1) (fun g fv i wr => ∃ (j : Nat) (fb : Bool), i = .int .i64 j ∧ fv = .bool fb ∧ j ≤ k ∧ k - j < g ∧ (fb = false → false = false) ∧ (fb = true → ∀ t (h : t < R.length), t < j → ¬ (R[t].client = x.client ∧ R[t].number = x.number)) ∧ Below w3.heap.size w3 wr)
                case atStart => exact ⟨0, true, rfl, rfl, by omega, by omega, by simp, fun _ t _ h => by omega, Below.refl _ _⟩
                case round =>
                  obtain ⟨j, fb, rfl, rfl, hj, hgj, hfb, hft, hb⟩ := hrel
                  have cx2 : wr.cell? ⟨B1, 2, none⟩ = some (.int .i64 x.client) := (hb.cell (p := ⟨B1, 2, none⟩) lx).trans bx2
                  have cx3 : wr.cell? ⟨B1, 3, none⟩ = some (.int .i64 x.number) := (hb.cell (p := ⟨B1, 3, none⟩) lx).trans bx3
                  have cy0 : wr.cell? ⟨w2.heap.size, 0, none⟩ = some (.int .i64 x.client) := (hb.cell (p := ⟨w2.heap.size, 0, none⟩) ly).trans by0
                  have cy1 : wr.cell? ⟨w2.heap.size, 1, none⟩ = some (.int .i64 x.number) := (hb.cell (p := ⟨w2.heap.size, 1, none⟩) ly).trans by1
                  have cy2 : wr.cell? ⟨w2.heap.size, 2, none⟩ = some (.string T) := (hb.cell (p := ⟨w2.heap.size, 2, none⟩) ly).trans by2
                  have hDr := HD3.out.below hb
                  have HFB := hid hfb
                  have HFT := hid hft
                  have HB := hid hb
                  clear hfb hft
                  by_cases hjk : j < k
                  · have hjR : j < R.length := by rw [HRL.out]; omega
                    have hjW : j < W.length := by rw [HWL.out]; omega
                    have hji : (j : Int) < (l.length : Int) := by omega
                    obtain ⟨z0, z1, z2⟩ := (Reads.of_owns hDr.rr).cells3 hjR
                    have zw : wr.cell? ⟨w.heap.size + 2 + 1, j, none⟩ = some (.bool W[j]) := by rw [hDr.rw.cellAt j (by omega), bools_get W j hjW]
                    have hmz := HM.out R[j] (List.getElem_mem _)
                    obtain ⟨z, hz⟩ : ∃ z, z = R[j] := ⟨_, rfl⟩
                    obtain ⟨q, hq⟩ : ∃ q, q = W[j] := ⟨_, rfl⟩
                    rw [← hz] at z0 z1 z2 hmz
                    rw [← hq] at zw
                    have HMZ := hid hmz
                    have HZJ := hid hz
                    clear hDr hb hmz hz hq cx2 cx3 lx ly bx2 bx3 by0 by1 by2
                    by_cases hzc : z.client = x.client
                    · have e1 : (z.client == x.client) = true := by simpa using hzc
                      by_cases hzn : z.number = x.number
                      · have e2 : (z.number == x.number) = true := by simpa using hzn
                        obtain ⟨ht, hbf⟩ := HMZ.out hzc hzn
                        rw [ht] at z2
                        clear ht hbf hzc hzn
                        cases q
                        all_goals
                          go_wp2_with fail
                          go_quiet (fail)
                          go_wp2_with fail
                          go_quiet (fail)
                          go_wp2_with fail
                          go_roundg (gk - 1)
                          case measure => omega
                          case rel => exact ⟨j + 1, false, by go_num, rfl, by omega, by omega, by simp, by simp, HB.out.trans ⟨rfl, rfl, rfl, Nat.le_refl _, fun _ _ => rfl⟩⟩
                      · have e2 : (z.number == x.number) = false := by simpa using hzn
                        have HN2 := hid hzn
                        clear hzc hzn
                        go_wp2_with fail
                        go_quiet (fail)
                        go_wp2_with fail
                        go_roundg (gk - 1)
                        case measure => omega
                        case rel => exact ⟨j + 1, fb, by go_num, rfl, by omega, by omega, HFB.out, fun h t ht hlt => once_next (HFT.out h) (fun hjj => by rw [← HZJ.out]; exact fun hh => HN2.out hh.2) t ht hlt, HB.out.trans ⟨rfl, rfl, rfl, Nat.le_refl _, fun _ _ => rfl⟩⟩
                    · have e1 : (z.client == x.client) = false := by simpa using hzc
                      have HN1 := hid hzc
                      clear hzc
                      go_wp2_with fail
                      go_quiet (fail)
                      go_wp2_with fail
                      go_roundg (gk - 1)
                      case measure => omega
                      case rel => exact ⟨j + 1, fb, by go_num, rfl, by omega, by omega, HFB.out, fun h t ht hlt => once_next (HFT.out h) (fun hjj => by rw [← HZJ.out]; exact fun hh => HN1.out hh.1) t ht hlt, HB.out.trans ⟨rfl, rfl, rfl, Nat.le_refl _, fun _ _ => rfl⟩⟩
                  · have hjk' : j = k := by omega
                    subst hjk'
                    have hfbe : fb = false := by
                      cases fb
                      · rfl
                      · rcases HE.out with h | ⟨y, hy, h1, h2⟩
                        · cases h
                        · obtain ⟨t, ht, rfl⟩ := List.getElem_of_mem hy
                          rcases Nat.lt_or_ge t j with h3 | h3
                          · exact absurd ⟨h1, h2⟩ (HFT.out rfl t ht h3)
                          · rw [HZ.out t ht h3] at h1
                            rw [← h1] at hc1
                            exact absurd hc1 (by decide)
                    subst hfbe
                    have hjR : j < R.length := by rw [HRL.out]; omega
                    have hjW : j < W.length := by rw [HWL.out]; omega
                    have hji : (j : Int) < (l.length : Int) := by omega
                    have hdr := HD3.out.below hb
                    obtain ⟨z0, z1, z2⟩ := (Reads.of_owns hdr.rr).cells3 hjR
                    have f0 := hdr.rr.frozenAt (j * 3)
                    have f1 := hdr.rr.frozenAt (j * 3 + 1)
                    have f2 := hdr.rr.frozenAt (j * 3 + 2)
                    have zw : wr.cell? ⟨w.heap.size + 2 + 1, j, none⟩ = some (.bool W[j]) := by rw [hdr.rw.cellAt j (by omega), bools_get W j hjW]
                    have fw := hdr.rw.frozenAt j
                    have HDR := hid hdr
                    clear hDr hdr hb lx ly bx2 bx3 by0 by1 by2
                    go_wp2_with fail
                    go_roundg (l.length - j)
                    case measure => omega
                    case rel => exact ⟨j + 1, S', by go_num, by rw [HDN.out]; simp, by omega, by omega, G', R.set j ⟨x.client, x.number, T⟩, W.set j false, (HDR.out.setR ⟨x.client, x.number, T⟩ hjR).setW, HOK'.out, HH'.out, by simpa using HRL.out, by simpa using HWL.out, fun t ht hjt => by rw [List.getElem_set_ne (by omega)]; exact HZ.out t (by simpa using ht) (by omega), by rw [HDN.out]; simp; omega, by rw [HDN.out]; simp; omega⟩
              · go_wp2_with fail
                refine HC.out.mono ?_
                rintro e1 w2 ⟨rfl, hsv⟩
                obtain ⟨G', hD'⟩ := HD.out.handle hsv
                have hD3 := hD'.below ((Below.refl w2.heap.size w2).alloc (Nat.le_refl _) (.cells #[.int .i64 x.client, .int .i64 x.number, .string T] 37))
                obtain ⟨_, _, hu2, _⟩ := hsv
                obtain ⟨w3, hw3⟩ : ∃ w3, w3 = w2.alloc (.cells #[.int .i64 x.client, .int .i64 x.number, .string T] 37) := ⟨_, rfl⟩
                have bx2 : w3.cell? ⟨wr.heap.size, 2, none⟩ = some (.int .i64 x.client) := by rw [hw3]; exact box_kept hGlt hu2 2
                have bx3 : w3.cell? ⟨wr.heap.size, 3, none⟩ = some (.int .i64 x.number) := by rw [hw3]; exact box_kept hGlt hu2 3
                have by0 : w3.cell? ⟨w2.heap.size, 0, none⟩ = some (.int .i64 x.client) := by rw [hw3]; simp
                have by1 : w3.cell? ⟨w2.heap.size, 1, none⟩ = some (.int .i64 x.number) := by rw [hw3]; simp
                have by2 : w3.cell? ⟨w2.heap.size, 2, none⟩ = some (.string T) := by rw [hw3]; simp
                have lx : wr.heap.size < w3.heap.size := World.block_lt_of_cell? w3 _ bx2
                have ly : w2.heap.size < w3.heap.size := World.block_lt_of_cell? w3 _ by0
                rw [← hw3] at hD3
                have HD3 := hid hD3
                have HW3 := hid hw3
                clear hD' hu2 hGlt hw3 hD3
                simp only [Rq.value]
                go_upto_region 14 with fail
                rw [← HW3.out]
                obtain ⟨B1, hB1⟩ : ∃ B1, B1 = wr.heap.size := ⟨_, rfl⟩
                rw [← hB1] at bx2 bx3 lx ⊢
                clear hB1
                go_wp2_with fail
                go_loopg [15, 16] (k + 1) (fun g fv i wr => ∃ (j : Nat) (fb : Bool), i = .int .i64 j ∧ fv = .bool fb ∧ j ≤ k ∧ k - j < g ∧ (fb = false → true = false) ∧ (fb = true → ∀ t (h : t < R.length), t < j → ¬ (R[t].client = x.client ∧ R[t].number = x.number)) ∧ Below w3.heap.size w3 wr)
                case atStart => exact ⟨0, true, rfl, rfl, by omega, by omega, by simp, fun _ t _ h => by omega, Below.refl _ _⟩
                case round =>
                  obtain ⟨j, fb, rfl, rfl, hj, hgj, hfb, hft, hb⟩ := hrel
                  have cx2 : wr.cell? ⟨B1, 2, none⟩ = some (.int .i64 x.client) := (hb.cell (p := ⟨B1, 2, none⟩) lx).trans bx2
                  have cx3 : wr.cell? ⟨B1, 3, none⟩ = some (.int .i64 x.number) := (hb.cell (p := ⟨B1, 3, none⟩) lx).trans bx3
                  have cy0 : wr.cell? ⟨w2.heap.size, 0, none⟩ = some (.int .i64 x.client) := (hb.cell (p := ⟨w2.heap.size, 0, none⟩) ly).trans by0
                  have cy1 : wr.cell? ⟨w2.heap.size, 1, none⟩ = some (.int .i64 x.number) := (hb.cell (p := ⟨w2.heap.size, 1, none⟩) ly).trans by1
                  have cy2 : wr.cell? ⟨w2.heap.size, 2, none⟩ = some (.string T) := (hb.cell (p := ⟨w2.heap.size, 2, none⟩) ly).trans by2
                  have hDr := HD3.out.below hb
                  have HFB := hid hfb
                  have HFT := hid hft
                  have HB := hid hb
                  clear hfb hft
                  by_cases hjk : j < k
                  · have hjR : j < R.length := by rw [HRL.out]; omega
                    have hjW : j < W.length := by rw [HWL.out]; omega
                    have hji : (j : Int) < (l.length : Int) := by omega
                    obtain ⟨z0, z1, z2⟩ := (Reads.of_owns hDr.rr).cells3 hjR
                    have zw : wr.cell? ⟨w.heap.size + 2 + 1, j, none⟩ = some (.bool W[j]) := by rw [hDr.rw.cellAt j (by omega), bools_get W j hjW]
                    have hmz := HM.out R[j] (List.getElem_mem _)
                    obtain ⟨z, hz⟩ : ∃ z, z = R[j] := ⟨_, rfl⟩
                    obtain ⟨q, hq⟩ : ∃ q, q = W[j] := ⟨_, rfl⟩
                    rw [← hz] at z0 z1 z2 hmz
                    rw [← hq] at zw
                    have HMZ := hid hmz
                    have HZJ := hid hz
                    clear hDr hb hmz hz hq cx2 cx3 lx ly bx2 bx3 by0 by1 by2
                    by_cases hzc : z.client = x.client
                    · have e1 : (z.client == x.client) = true := by simpa using hzc
                      by_cases hzn : z.number = x.number
                      · have e2 : (z.number == x.number) = true := by simpa using hzn
                        obtain ⟨ht, hbf⟩ := HMZ.out hzc hzn
                        cases hbf
                      · have e2 : (z.number == x.number) = false := by simpa using hzn
                        have HN2 := hid hzn
                        clear hzc hzn
                        go_wp2_with fail
                        go_quiet (fail)
                        go_wp2_with fail
                        go_roundg (gk - 1)
                        case measure => omega
                        case rel => exact ⟨j + 1, fb, by go_num, rfl, by omega, by omega, HFB.out, fun h t ht hlt => once_next (HFT.out h) (fun hjj => by rw [← HZJ.out]; exact fun hh => HN2.out hh.2) t ht hlt, HB.out.trans ⟨rfl, rfl, rfl, Nat.le_refl _, fun _ _ => rfl⟩⟩
                    · have e1 : (z.client == x.client) = false := by simpa using hzc
                      have HN1 := hid hzc
                      clear hzc
                      go_wp2_with fail
                      go_quiet (fail)
                      go_wp2_with fail
                      go_roundg (gk - 1)
                      case measure => omega
                      case rel => exact ⟨j + 1, fb, by go_num, rfl, by omega, by omega, HFB.out, fun h t ht hlt => once_next (HFT.out h) (fun hjj => by rw [← HZJ.out]; exact fun hh => HN1.out hh.1) t ht hlt, HB.out.trans ⟨rfl, rfl, rfl, Nat.le_refl _, fun _ _ => rfl⟩⟩
                  · have hjk' : j = k := by omega
                    subst hjk'
                    have hfbe : fb = true := by
                      cases fb
                      · exact (HFB.out rfl).symm
                      · rfl
                    subst hfbe
                    have hjR : j < R.length := by rw [HRL.out]; omega
                    have hjW : j < W.length := by rw [HWL.out]; omega
                    have hji : (j : Int) < (l.length : Int) := by omega
                    have hdr := HD3.out.below hb
                    obtain ⟨z0, z1, z2⟩ := (Reads.of_owns hdr.rr).cells3 hjR
                    have f0 := hdr.rr.frozenAt (j * 3)
                    have f1 := hdr.rr.frozenAt (j * 3 + 1)
                    have f2 := hdr.rr.frozenAt (j * 3 + 2)
                    have zw : wr.cell? ⟨w.heap.size + 2 + 1, j, none⟩ = some (.bool W[j]) := by rw [hdr.rw.cellAt j (by omega), bools_get W j hjW]
                    have fw := hdr.rw.frozenAt j
                    have HDR := hid hdr
                    clear hDr hdr hb lx ly bx2 bx3 by0 by1 by2
                    go_wp2_with fail
                    go_roundg (l.length - j)
                    case measure => omega
                    case rel => exact ⟨j + 1, S', by go_num, by rw [HDN.out]; simp, by omega, by omega, G', R.set j ⟨x.client, x.number, T⟩, W.set j true, (HDR.out.setR ⟨x.client, x.number, T⟩ hjR).setW, HOK'.out, HH'.out, by simpa using HRL.out, by simpa using HWL.out, fun t ht hjt => by rw [List.getElem_set_ne (by omega)]; exact HZ.out t (by simpa using ht) (by omega), by rw [HDN.out]; simp; omega, by rw [HDN.out]; simp; omega⟩
          · have HS := hid hS
            clear hS
            obtain ⟨G, R, W, D, _⟩ := HS.out
            have HD := hid D
            clear D
            obtain ⟨mb, fm, h1, _⟩ := HD.out.sv.parts
            have hdn := done_any (w.heap.size + 1) S.done wr (by rw [cell_of_row wr (w.heap.size + 1) 1 _ _ _ h1]; rfl)
            have HDN := hid hdn
            clear hdn h1
            go_wp2_with fail
            refine HDN.out.mono ?_
            rintro e w2 ⟨rfl, rfl⟩
            go_wp2_with fail
            refine (awake_any _).mono ?_
            rintro e w2 ⟨rfl, hb⟩
            go_wp2_with fail
            go_ret
            exact ⟨rfl, HD.out.old.trans (hb.mono HD.out.old.size)⟩
  · have hd : decide (Few l) = false := by simpa using hfew
    unfold FewEnds at hf
    rw [hd] at hf
    have HF := hid hf
    clear hr hf hd hfew
    go_enter Try.func4, Try.ntmps4
    go_wp2_with fail
    refine HF.out.mono ?_
    rintro e w1 ⟨rfl, rfl⟩
    go_wp2_with fail
    refine (awake_any _).mono ?_
    rintro e w1 ⟨rfl, hb⟩
    go_wp2_with fail
    go_ret
    exact ⟨rfl, hb⟩

end Go.Proofs.Ytaglidlibocgpaa
