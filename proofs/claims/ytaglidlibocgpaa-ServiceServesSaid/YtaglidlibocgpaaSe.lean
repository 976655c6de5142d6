/-
  One request to a server and to the reference's server: the plain step, and where both lie in memory.
-/
import Derived.Test.YtaglidlibocgpaaSd
namespace Go.Proofs.Ytaglidlibocgpaa
open Go.RowKit

theorem refKept_length (K : List Rq) (keep : Int) (x : Rq) (m : Int) (cnt : Nat) : (refKept K keep x m cnt).length ≤ K.length + 1 := by
  unfold refKept
  split
  · have := List.length_eraseIdx_le (K ++ [x]) m.toNat
    rw [List.length_append] at this
    exact this
  · simp

theorem Eqv.step {S : Sv} {K K' : List Rq} (E : Eqv S K) (ok : SvOk S) {r x : Rq} {done' : Int} {b : Bool} {er : Int} (hn : r.number ≤ 9223372036854775807) (h : RWay K S.keep S.done r (answerS r.text) K' done' x b er) :
    ∃ S', handleS S r (some answerS) = (S', x, b, er) ∧ Eqv S' K' ∧ SvOk S' ∧ S'.done = done' ∧ S'.keep = S.keep ∧ K'.length ≤ K.length + 1 ∧ S.done ≤ done' ∧ done' ≤ S.done + 1 := by
  have hok := handleS_ok ok r (some answerS) hn
  rcases h with ⟨h0, ⟨b', hw⟩, rfl, rfl, rfl, rfl⟩ | ⟨rfl, hw, rfl, rfl, ⟨k, hk, rfl, h1, h2⟩, rfl⟩ | ⟨rfl, hw, rfl, hx, rfl, m, cnt, hL, rfl⟩
  · rcases E.old ok (f := answerS) hw with ⟨_, _, h⟩ | ⟨h, _⟩ | ⟨h, _⟩
    · rw [h] at hok
      exact ⟨S, h, E, hok, rfl, rfl, by omega, by omega, by omega⟩
    · exact absurd h h0
    · exact absurd h h0
  · rcases E.old ok (f := answerS) hw with ⟨h, _⟩ | ⟨_, _, _, h⟩ | ⟨_, h, _⟩
    · exact absurd rfl h
    · have := h k hk h1 h2
      rw [this] at hok
      exact ⟨S, this, E, hok, rfl, rfl, by omega, by omega, by omega⟩
    · cases h
  · subst hx
    rcases E.old ok (f := answerS) hw with ⟨h, _⟩ | ⟨_, h, _⟩ | ⟨_, _, h1, h2, h3, h4, h5, h6⟩
    · exact absurd rfl h
    · cases h
    · rw [h6] at hok
      exact ⟨_, h6, E.served ok h2 hn h3 h4 hL, hok, rfl, rfl, refKept_length _ _ _ _ _, by omega, by omega⟩

/-- The server, and the reference's, at the head of step k. -/
structure Srv (w0 wr : World) (G : Nat → Prop) (sb bx k : Nat) (S : Sv) (K : List Rq) (v : Value) : Prop where
  solo : Solo w0 wr G sb S
  ok : SvOk S
  eqv : Eqv S K
  row : wr.heap[bx]? = some (.cells #[.int .i64 S.keep, v, .int .i64 S.done] 31 (0, 0))
  reads : Reads wr v K.length 3 (rqs K)
  apart : ∀ b, v.ownBlock = some b → ¬ G b ∧ b ≠ bx ∧ b < wr.heap.size
  newB : w0.heap.size ≤ bx ∧ ¬ G bx
  done : 0 ≤ S.done ∧ S.done ≤ k
  len : K.length ≤ k

theorem Srv.below {w0 wr w' : World} {G : Nat → Prop} {sb bx k : Nat} {S : Sv} {K : List Rq} {v : Value} (D : Srv w0 wr G sb bx k S K v) (hb : Below wr.heap.size wr w') : Srv w0 w' G sb bx k S K v :=
  ⟨D.solo.below hb, D.ok, D.eqv, (hb.block bx (Array.getElem?_eq_some_iff.1 D.row).1).trans D.row, D.reads.below hb, fun b h => ⟨(D.apart b h).1, (D.apart b h).2.1, Nat.lt_of_lt_of_le (D.apart b h).2.2 hb.size⟩, D.newB, D.done, D.len⟩

/-- Behind the server's Handle, ahead of the reference's. -/
structure Mid (w0 w3 : World) (G : Nat → Prop) (sb bx : Nat) (S1 : Sv) (keep done : Int) (K : List Rq) (v : Value) : Prop where
  solo : Solo w0 w3 G sb S1
  row : w3.heap[bx]? = some (.cells #[.int .i64 keep, v, .int .i64 done] 31 (0, 0))
  reads : Reads w3 v K.length 3 (rqs K)
  apart : ∀ b, v.ownBlock = some b → ¬ G b ∧ b ≠ bx ∧ b < w3.heap.size
  newB : w0.heap.size ≤ bx ∧ ¬ G bx

theorem Srv.handle {w0 w1 w2 : World} {G G' : Nat → Prop} {sb bx k : Nat} {S S1 : Sv} {K : List Rq} {v : Value} (D : Srv w0 w1 G sb bx k S K v) (hs : Solo w0 w2 G' sb S1) (hu : Upd G w1 w2) (hG : ∀ k, G' k → G k ∨ w1.heap.size ≤ k) :
    Mid w0 w2 G' sb bx S1 S.keep S.done K v := by
  have hbx : bx < w1.heap.size := (Array.getElem?_eq_some_iff.1 D.row).1
  refine ⟨hs, (hu.block bx hbx D.newB.2).trans D.row, D.reads.upd hu fun b h => (D.apart b h).1, fun b h => ?_, D.newB.1, fun h => ?_⟩
  · obtain ⟨h1, h2, h3⟩ := D.apart b h
    exact ⟨fun hg => (hG b hg).elim h1 fun h4 => by omega, h2, Nat.lt_of_lt_of_le h3 hu.size⟩
  · exact (hG bx h).elim D.newB.2 fun h4 => by omega
theorem Mid.below {w0 w w' : World} {G : Nat → Prop} {sb bx : Nat} {S1 : Sv} {keep done : Int} {K : List Rq} {v : Value} (D : Mid w0 w G sb bx S1 keep done K v) (hb : Below w.heap.size w w') : Mid w0 w' G sb bx S1 keep done K v :=
  ⟨D.solo.below hb, (hb.block bx (Array.getElem?_eq_some_iff.1 D.row).1).trans D.row, D.reads.below hb, fun b h => ⟨(D.apart b h).1, (D.apart b h).2.1, Nat.lt_of_lt_of_le (D.apart b h).2.2 hb.size⟩, D.newB⟩
theorem Mid.cells {w0 w : World} {G : Nat → Prop} {sb bx : Nat} {S1 : Sv} {keep done : Int} {K : List Rq} {v : Value} (D : Mid w0 w G sb bx S1 keep done K v) :
    bx < w.heap.size ∧ w.cell? ⟨bx, 0, none⟩ = some (.int .i64 keep) ∧ w.cell? ⟨bx, 1, none⟩ = some v ∧ w.cell? ⟨bx, 2, none⟩ = some (.int .i64 done) ∧ ∀ o, w.frozen? ⟨bx, o, none⟩ = false :=
  ⟨(Array.getElem?_eq_some_iff.1 D.row).1, by rw [cell_of_row w _ 0 _ _ _ D.row]; rfl, by rw [cell_of_row w _ 1 _ _ _ D.row]; rfl, by rw [cell_of_row w _ 2 _ _ _ D.row]; rfl, fun o => frozen_of_row w _ o _ _ D.row⟩

theorem Mid.next {w0 w3 wx : World} {G : Nat → Prop} {sb bx k : Nat} {S1 : Sv} {keep done : Int} {K K' : List Rq} {v v' : Value} (D : Mid w0 w3 G sb bx S1 keep done K v) (hb : Below w3.heap.size w3 wx) (hr : Reads wx v' K'.length 3 (rqs K'))
    (ho : ∀ k, v'.ownBlock = some k → v.ownBlock = some k ∨ (w3.heap.size ≤ k ∧ k < wx.heap.size)) (ok : SvOk S1) (E : Eqv S1 K') (hk : S1.keep = keep) (hd0 : 0 ≤ S1.done) (hd1 : S1.done ≤ k) (hl : K'.length ≤ k) {keep' done' : Int} (hk' : keep' = keep) (hd' : done' = S1.done) :
    Srv w0 (((wx.setCell ⟨bx, 0, none⟩ (.int .i64 keep')).setCell ⟨bx, 1, none⟩ v').setCell ⟨bx, 2, none⟩ (.int .i64 done')) G sb bx k S1 K' v' := by
  subst hk' hd'
  subst hk
  have hbx : bx < w3.heap.size := (Array.getElem?_eq_some_iff.1 D.row).1
  have hu := (((Upd.refl (fun b => b = bx) wx).setCell (p := ⟨bx, 0, none⟩) (.inl rfl) (.int .i64 S1.keep)).setCell (p := ⟨bx, 1, none⟩) (.inl rfl) v').setCell (p := ⟨bx, 2, none⟩) (.inl rfl) (.int .i64 S1.done)
  have D2 := D.below hb
  have hne : ∀ b, v'.ownBlock = some b → ¬ G b ∧ b ≠ bx ∧ b < wx.heap.size := by
    intro b h
    rcases ho b h with h1 | ⟨h1, h2⟩
    · exact D2.apart b h1
    · refine ⟨fun hg => ?_, by omega, h2⟩
      have := D.solo.sv.lt b hg
      omega
  refine ⟨⟨Upd.onto D2.solo.old hu (fun b h => h ▸ D.newB.1), D2.solo.sv.upd hu (fun b hg h => D.newB.2 (h ▸ hg)), D2.solo.newG⟩, ok, E, ?_, hr.upd hu (fun b h => (hne b h).2.1), fun b h => ⟨(hne b h).1, (hne b h).2.1, by simpa using (hne b h).2.2⟩, D.newB, ⟨hd0, hd1⟩, hl⟩
  have r1 := heap_setCell_same wx bx 0 _ 31 (.int .i64 S1.keep) D2.row
  have r2 := heap_setCell_same _ bx 1 _ 31 v' r1
  exact heap_setCell_same _ bx 2 _ 31 (.int .i64 S1.done) r2

theorem answerS_size (s : ByteArray) (h : s.size ≤ 4100) : (answerS s).size ≤ 8300 := by
  unfold answerS
  split
  · rw [longS_size]; omega
  · simp [ByteArray.size_append]
    have h1 : (⟨#[60]⟩ : ByteArray).size = 1 := rfl
    have h2 : (⟨#[62]⟩ : ByteArray).size = 1 := rfl
    omega

/-- Behind the reference's Handle: two new blocks hold the server and the reply. -/
def After (w3 : World) (S : Sv) (K : List Rq) (r : Rq) (v s14 s15 s16 s17 : Value) (wx : World) : Prop :=
  ∃ (B4 B5 : Nat) (v' : Value) (K' : List Rq) (done' : Int) (x : Rq) (b : Bool) (er : Int), s14 = .pointer (some ⟨B4, 0, none⟩) ∧ s15 = .pointer (some ⟨B5, 0, none⟩) ∧ s16 = .bool b ∧ s17 = .int .i64 er ∧ Below w3.heap.size w3 wx ∧
    w3.heap.size ≤ B4 ∧ w3.heap.size ≤ B5 ∧ wx.heap[B4]? = some (.cells #[.int .i64 S.keep, v', .int .i64 done'] 31 (0, 0)) ∧ wx.heap[B5]? = some (.cells #[.int .i64 x.client, .int .i64 x.number, .string x.text] 41 (0, 0)) ∧
    Reads wx v' K'.length 3 (rqs K') ∧ (∀ k, v'.ownBlock = some k → v.ownBlock = some k ∨ (w3.heap.size ≤ k ∧ k < wx.heap.size)) ∧ RWay K S.keep S.done r (answerS r.text) K' done' x b er

/-- What the reference's Handle gives at a world W that has grown out of w3. -/
structure Got (w3 W w4 : World) (S : Sv) (K : List Rq) (r : Rq) (v v' : Value) (K' : List Rq) (done' : Int) (x : Rq) (b : Bool) (er : Int) : Prop where
  below : Below w3.heap.size w3 w4
  belowW : Below W.heap.size W w4
  size : w3.heap.size ≤ W.heap.size
  reads : Reads w4 v' K'.length 3 (rqs K')
  own : ∀ k, v'.ownBlock = some k → v.ownBlock = some k ∨ (W.heap.size ≤ k ∧ k < w4.heap.size)
  vlt : ∀ k, v.ownBlock = some k → k < w3.heap.size
  way : RWay K S.keep S.done r (answerS r.text) K' done' x b er

theorem rh_at {w0 w3 : World} {G : Nat → Prop} {sb bx : Nat} {S S1 : Sv} {K : List Rq} {v : Value} (M : Mid w0 w3 G sb bx S1 S.keep S.done K v) (ok : SvOk S) (hl : K.length ≤ 100) (hd0 : 0 ≤ S.done) (hd1 : S.done ≤ 1000000) (c n : Int) (t : ByteArray) (hs : t.size ≤ 4100) (W : World) (hbW : Below w3.heap.size w3 W) :
    Calls Try.prog 14 #[.agg #[.int .i64 S.keep, v, .int .i64 S.done], .agg #[.int .i64 c, .int .i64 n, .string t], .string (answerS t)] W fun e w4 =>
      ∃ K' done' a4 cap4 x b er, e = .returned (.tuple #[.agg #[.int .i64 S.keep, .slice a4 K'.length cap4, .int .i64 done'], .agg #[.int .i64 x.client, .int .i64 x.number, .string x.text], .bool b, .int .i64 er]) ∧ Got w3 W w4 S K ⟨c, n, t⟩ v (.slice a4 K'.length cap4) K' done' x b er := by
  refine (rhandle_any K S.keep S.done ⟨c, n, t⟩ (answerS t) v W (M.reads.below hbW) hl ok.keep1 hs (answerS_size _ hs) hd0 hd1).mono ?_
  rintro e w4 ⟨hb4, K', done', v', x, b, er, rfl, hrd, hown, hway⟩
  obtain ⟨a4, cap4, rfl, hc4, hm4⟩ := hrd.shape
  exact ⟨K', done', a4, cap4, x, b, er, rfl, hbW.trans (hb4.mono hbW.size), hb4, hbW.size, hrd, hown, fun k hk => (M.apart k hk).2.2, hway⟩

/-- Three cells of a block written. -/
theorem row_three {w : World} {p t : Nat} {x y z : Value} (h : w.heap[p]? = some (.cells #[x, y, z] t (0, 0))) (a b c : Value) :
    (((w.setCell ⟨p, 0, none⟩ a).setCell ⟨p, 1, none⟩ b).setCell ⟨p, 2, none⟩ c).heap[p]? = some (.cells #[a, b, c] t (0, 0)) :=
  heap_setCell_same _ p 2 _ t c (heap_setCell_same _ p 1 _ t b (heap_setCell_same w p 0 _ t a h))
theorem row_three_other (w : World) {p k : Nat} (a b c : Value) (h : k ≠ p) : (((w.setCell ⟨p, 0, none⟩ a).setCell ⟨p, 1, none⟩ b).setCell ⟨p, 2, none⟩ c).heap[k]? = w.heap[k]? := by
  rw [Below.heap_setCell _ _ _ _ (by exact h), Below.heap_setCell _ _ _ _ (by exact h), Below.heap_setCell _ _ _ _ (by exact h)]
theorem upd_three {F : Nat → Prop} {w0 w : World} {p : Nat} (h : Upd F w0 w) (hp : F p) (a b c : Value) : Upd F w0 (((w.setCell ⟨p, 0, none⟩ a).setCell ⟨p, 1, none⟩ b).setCell ⟨p, 2, none⟩ c) :=
  ((h.setCell (p := ⟨p, 0, none⟩) (.inl hp) a).setCell (p := ⟨p, 1, none⟩) (.inl hp) b).setCell (p := ⟨p, 2, none⟩) (.inl hp) c

variable {w3 W w4 wx : World} {S : Sv} {K K' : List Rq} {r x : Rq} {v v' : Value} {done' er : Int} {b : Bool}

theorem Got.after (g : Got w3 W w4 S K r v v' K' done' x b er) {B4 B5 : Nat} (hu : Upd (fun k => k = B4 ∨ k = B5) w4 wx) (h4 : w3.heap.size ≤ B4) (h5 : w3.heap.size ≤ B5) (h4W : B4 < W.heap.size ∨ w4.heap.size ≤ B4) (h5W : B5 < W.heap.size ∨ w4.heap.size ≤ B5)
    (r4 : wx.heap[B4]? = some (.cells #[.int .i64 S.keep, v', .int .i64 done'] 31 (0, 0))) (r5 : wx.heap[B5]? = some (.cells #[.int .i64 x.client, .int .i64 x.number, .string x.text] 41 (0, 0))) :
    After w3 S K r v (.pointer (some ⟨B4, 0, none⟩)) (.pointer (some ⟨B5, 0, none⟩)) (.bool b) (.int .i64 er) wx := by
  have hs := hu.size
  have hs4 := g.below.size
  refine ⟨B4, B5, v', K', done', x, b, er, rfl, rfl, rfl, rfl, Upd.onto g.below hu (fun k hk => by rcases hk with rfl | rfl <;> assumption), h4, h5, r4, r5, g.reads.upd hu (fun k hk => ?_), fun k hk => ?_, g.way⟩
  · rcases g.own k hk with h | ⟨h1, h2⟩
    · have := g.vlt k h
      omega
    · omega
  · have := g.size
    exact (g.own k hk).imp id fun h => ⟨by omega, by omega⟩

abbrev zero31 : Obj := .cells #[.int .i64 0, .slice none 0 0, .int .i64 0] 31
abbrev zero41 : Obj := .cells #[.int .i64 0, .int .i64 0, .string ⟨#[]⟩] 41

theorem after_1 (g : Got w3 W w4 S K r v v' K' done' x b er) : After w3 S K r v (.pointer (some ⟨w4.heap.size, 0, none⟩)) (.pointer (some ⟨w4.heap.size + 1, 0, none⟩)) (.bool b) (.int .i64 er)
    ((w4.alloc (.cells #[.int .i64 S.keep, v', .int .i64 done'] 31)).alloc (.cells #[.int .i64 x.client, .int .i64 x.number, .string x.text] 41)) := by
  have h1 := heap_alloc_new (w4.alloc (.cells #[.int .i64 S.keep, v', .int .i64 done'] 31)) (.cells #[.int .i64 x.client, .int .i64 x.number, .string x.text] 41)
  rw [World.size_alloc] at h1
  have hs := g.below.size
  refine g.after (((Upd.refl _ _).alloc _).alloc _) hs (by omega) (.inr (Nat.le_refl _)) (.inr (by omega)) ?_ h1
  rw [Below.heap_alloc _ _ _ (by simp)]
  exact heap_alloc_new w4 _
theorem after_2 (g : Got w3 W w4 S K r v v' K' done' x b er) : After w3 S K r v (.pointer (some ⟨w4.heap.size + 1, 0, none⟩)) (.pointer (some ⟨w4.heap.size, 0, none⟩)) (.bool b) (.int .i64 er)
    ((w4.alloc (.cells #[.int .i64 x.client, .int .i64 x.number, .string x.text] 41)).alloc (.cells #[.int .i64 S.keep, v', .int .i64 done'] 31)) := by
  have h1 := heap_alloc_new (w4.alloc (.cells #[.int .i64 x.client, .int .i64 x.number, .string x.text] 41)) (.cells #[.int .i64 S.keep, v', .int .i64 done'] 31)
  rw [World.size_alloc] at h1
  have hs := g.below.size
  refine g.after (((Upd.refl _ _).alloc _).alloc _) (by omega) hs (.inr (by omega)) (.inr (Nat.le_refl _)) h1 ?_
  rw [Below.heap_alloc _ _ _ (by simp)]
  exact heap_alloc_new w4 _
/-- The server's block was made ahead of the call, the reply's behind it. -/
theorem after_3 {p : Nat} (g : Got w3 W w4 S K r v v' K' done' x b er) (hp : w3.heap.size ≤ p ∧ p < W.heap.size) (hr : w4.heap[p]? = some zero31) : After w3 S K r v (.pointer (some ⟨p, 0, none⟩)) (.pointer (some ⟨w4.heap.size, 0, none⟩)) (.bool b) (.int .i64 er)
    ((((w4.setCell ⟨p, 0, none⟩ (.int .i64 S.keep)).setCell ⟨p, 1, none⟩ v').setCell ⟨p, 2, none⟩ (.int .i64 done')).alloc (.cells #[.int .i64 x.client, .int .i64 x.number, .string x.text] 41)) := by
  have hs := g.below.size
  have hw := g.belowW.size
  refine g.after ((upd_three (Upd.refl _ _) (.inl rfl) _ _ _).alloc _) hp.1 hs (.inl hp.2) (.inr (Nat.le_refl _)) ?_ ?_
  · rw [Below.heap_alloc _ _ _ (by simp; omega)]
    exact row_three hr _ _ _
  · have := heap_alloc_new (((w4.setCell ⟨p, 0, none⟩ (.int .i64 S.keep)).setCell ⟨p, 1, none⟩ v').setCell ⟨p, 2, none⟩ (.int .i64 done')) (.cells #[.int .i64 x.client, .int .i64 x.number, .string x.text] 41)
    simpa using this
theorem after_4 {p : Nat} (g : Got w3 W w4 S K r v v' K' done' x b er) (hp : w3.heap.size ≤ p ∧ p < W.heap.size) (hr : w4.heap[p]? = some zero41) : After w3 S K r v (.pointer (some ⟨w4.heap.size, 0, none⟩)) (.pointer (some ⟨p, 0, none⟩)) (.bool b) (.int .i64 er)
    ((((w4.setCell ⟨p, 0, none⟩ (.int .i64 x.client)).setCell ⟨p, 1, none⟩ (.int .i64 x.number)).setCell ⟨p, 2, none⟩ (.string x.text)).alloc (.cells #[.int .i64 S.keep, v', .int .i64 done'] 31)) := by
  have hs := g.below.size
  have hw := g.belowW.size
  refine g.after ((upd_three (Upd.refl _ _) (.inr rfl) _ _ _).alloc _) hs hp.1 (.inr (Nat.le_refl _)) (.inl hp.2) ?_ ?_
  · have := heap_alloc_new (((w4.setCell ⟨p, 0, none⟩ (.int .i64 x.client)).setCell ⟨p, 1, none⟩ (.int .i64 x.number)).setCell ⟨p, 2, none⟩ (.string x.text)) (.cells #[.int .i64 S.keep, v', .int .i64 done'] 31)
    simpa using this
  · rw [Below.heap_alloc _ _ _ (by simp; omega)]
    exact row_three hr _ _ _
/-- Both blocks were made ahead of the call. -/
theorem after_5 {p q : Nat} (g : Got w3 W w4 S K r v v' K' done' x b er) (hp : w3.heap.size ≤ p ∧ p < W.heap.size) (hq : w3.heap.size ≤ q ∧ q < W.heap.size) (hpq : p ≠ q) (hr : w4.heap[p]? = some zero31) (hr2 : w4.heap[q]? = some zero41) :
    After w3 S K r v (.pointer (some ⟨p, 0, none⟩)) (.pointer (some ⟨q, 0, none⟩)) (.bool b) (.int .i64 er)
    ((((((w4.setCell ⟨p, 0, none⟩ (.int .i64 S.keep)).setCell ⟨p, 1, none⟩ v').setCell ⟨p, 2, none⟩ (.int .i64 done')).setCell ⟨q, 0, none⟩ (.int .i64 x.client)).setCell ⟨q, 1, none⟩ (.int .i64 x.number)).setCell ⟨q, 2, none⟩ (.string x.text)) := by
  refine g.after (upd_three (upd_three (Upd.refl _ _) (.inl rfl) _ _ _) (.inr rfl) _ _ _) hp.1 hq.1 (.inl hp.2) (.inl hq.2) ?_ ?_
  · rw [row_three_other _ _ _ _ hpq]
    exact row_three hr _ _ _
  · exact row_three ((row_three_other _ _ _ _ hpq.symm).trans hr2) _ _ _
theorem after_6 {p q : Nat} (g : Got w3 W w4 S K r v v' K' done' x b er) (hp : w3.heap.size ≤ p ∧ p < W.heap.size) (hq : w3.heap.size ≤ q ∧ q < W.heap.size) (hpq : p ≠ q) (hr : w4.heap[p]? = some zero31) (hr2 : w4.heap[q]? = some zero41) :
    After w3 S K r v (.pointer (some ⟨p, 0, none⟩)) (.pointer (some ⟨q, 0, none⟩)) (.bool b) (.int .i64 er)
    ((((((w4.setCell ⟨q, 0, none⟩ (.int .i64 x.client)).setCell ⟨q, 1, none⟩ (.int .i64 x.number)).setCell ⟨q, 2, none⟩ (.string x.text)).setCell ⟨p, 0, none⟩ (.int .i64 S.keep)).setCell ⟨p, 1, none⟩ v').setCell ⟨p, 2, none⟩ (.int .i64 done')) := by
  refine g.after (upd_three (upd_three (Upd.refl _ _) (.inr rfl) _ _ _) (.inl rfl) _ _ _) hp.1 hq.1 (.inl hp.2) (.inl hq.2) ?_ ?_
  · exact row_three ((row_three_other _ _ _ _ hpq).trans hr) _ _ _
  · rw [row_three_other _ _ _ _ hpq.symm]
    exact row_three hr2 _ _ _

end Go.Proofs.Ytaglidlibocgpaa
