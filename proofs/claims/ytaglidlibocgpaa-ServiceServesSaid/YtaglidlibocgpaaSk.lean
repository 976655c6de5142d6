/-
  A row that is being appended to, whose slice lies in the cell of a struct of the call's own.
-/
import Derived.Test.YtaglidlibocgpaaSc
import Derived.Laws.AppendOwnNone
namespace Go.Proofs.Ytaglidlibocgpaa
open Go.RowKit

/-- append(v, x...) where v is the call's own and x may be read (or is nil). -/
theorem wpList_append_reads {P : Program} {w : World} {ops : Array Oper} {rest : List Oper} {o : Oper} {a : Act} {Q : Exit → Act → World → Prop} (hgd : o.guard = none) (s x : Operand) (t : TypeId)
    (ho : o.op = .call { callee := .builtin .append, args := #[s, x], argTypes := #[t, t] })
    (base : Nat) (e : TypeId) (i : TypeInfo) (z : Value) (size bytes : Nat) (ht : P.underlying t = some (.slice e)) (hi : P.info? e = some i) (hz : i.zero = some z)
    (hsize : i.size = size) (hby : i.bytes = bytes) (hzs : z.cells.size = size) (hsz : 0 < size)
    (v : Value) (n : Nat) (xs : List Value) (hs : a.eval s = v) (hown : w.ownsRow base e size v n xs)
    (u : Value) (m : Nat) (news : List Value) (hx : a.eval x = u) (hr : Reads w u m size news) (h1 : ∀ u ∈ news, u.oneCell' = true)
    (h63 : n + m ≤ maxLen) (hbytes : (n + m) * bytes ≤ 140737488355328) (hbase : base ≤ w.heap.size)
    (h : ∀ v' w', w'.ownsRow base e size v' (n + m) (xs ++ news) → w.grownBy w' v.ownBlock → wpList P ops Q rest (a.put o.dst v') w') :
    wpList P ops Q (o :: rest) a w := by
  obtain ⟨hl, ad, cap, rfl, hc, hm, h0, hcell⟩ := hr
  rcases ad with _ | ⟨b, off, sp⟩
  · have hc0 := h0 rfl
    subst hc0
    have hm0 : m = 0 := by omega
    subst hm0
    have hn : news = [] := List.eq_nil_of_length_eq_zero (by omega)
    subst hn
    exact wpList_append_own_none hgd s x t ho base e i size ht hi v n xs hs hown hx (h v w (by simpa using hown) ⟨rfl, rfl, rfl, Nat.le_refl _, fun _ _ _ => rfl⟩)
  · obtain ⟨hsp, hc⟩ := hcell _ rfl
    subst hsp
    exact wpList_append_own_at w hgd s x t ho base e i z size bytes ht hi hz hsize hby hzs hsz v n xs hs hown ⟨b, off, none⟩ m cap news hx hl (fun j u hj => by rw [Addr.add_lit]; exact hc j u hj) h1 h63 hbytes hbase fun v' w' p1 p2 _ _ => h v' w' p1 p2

/-- The list that is being made: a struct at Q holds its slice v. -/
structure OutAt (w9 : World) (Q : Nat) (keep done1 : Int) (v : Value) (L : List Rq) (wx : World) : Prop where
  row : wx.heap[Q]? = some (.cells #[.int .i64 keep, v, .int .i64 done1] 31 (0, 0))
  owns : wx.ownsRow w9.heap.size 41 3 v L.length (rqs L)
  upd : Upd (fun k => k = Q) w9 wx

variable {w9 wx wy wz : World} {Q : Nat} {keep done1 : Int} {v v' : Value} {L L' : List Rq}

theorem OutAt.c0 (O : OutAt w9 Q keep done1 v L wx) : wx.cell? ⟨Q, 0, none⟩ = some (.int .i64 keep) := by rw [cell_of_row wx _ 0 _ _ _ O.row]; rfl
theorem OutAt.c1 (O : OutAt w9 Q keep done1 v L wx) : wx.cell? ⟨Q, 1, none⟩ = some v := by rw [cell_of_row wx _ 1 _ _ _ O.row]; rfl
theorem OutAt.c2 (O : OutAt w9 Q keep done1 v L wx) : wx.cell? ⟨Q, 2, none⟩ = some (.int .i64 done1) := by rw [cell_of_row wx _ 2 _ _ _ O.row]; rfl
theorem OutAt.free (O : OutAt w9 Q keep done1 v L wx) (o : Nat) : wx.frozen? ⟨Q, o, none⟩ = false := frozen_of_row wx _ o _ _ O.row
theorem OutAt.reads (O : OutAt w9 Q keep done1 v L wx) : Reads wx v L.length 3 (rqs L) := Reads.of_owns O.owns
theorem OutAt.cell (O : OutAt w9 Q keep done1 v L wx) {b o : Nat} (hb : b < w9.heap.size) (hn : b ≠ Q) : wx.cell? ⟨b, o, none⟩ = w9.cell? ⟨b, o, none⟩ := O.upd.cell (p := ⟨b, o, none⟩) hb hn
theorem OutAt.frozen (O : OutAt w9 Q keep done1 v L wx) {b o : Nat} (hb : b < w9.heap.size) (hn : b ≠ Q) : wx.frozen? ⟨b, o, none⟩ = w9.frozen? ⟨b, o, none⟩ := O.upd.frozen (p := ⟨b, o, none⟩) hb hn
theorem OutAt.below (O : OutAt w9 Q keep done1 v L wx) (hQ : Q < w9.heap.size) (hb : Below wx.heap.size wx wy) : OutAt w9 Q keep done1 v L wy :=
  ⟨(hb.block _ (Nat.lt_of_lt_of_le hQ O.upd.size)).trans O.row, owns_below O.owns hb, O.upd.then (Upd.of_new hb)⟩
theorem OutAt.store (hQ : Q < w9.heap.size) (hrow : wz.heap[Q]? = some (.cells #[.int .i64 keep, v, .int .i64 done1] 31 (0, 0))) (hu : Upd (fun k => k = Q) w9 wz) {row : Option Nat} (hg : wz.grownBy wy row) (hv : ∀ k, row = some k → w9.heap.size ≤ k)
    (hown : wy.ownsRow w9.heap.size 41 3 v' L'.length (rqs L')) : OutAt w9 Q keep done1 v' L' (wy.setCell ⟨Q, 1, none⟩ v') := by
  refine ⟨?_, ownsRow_setCell_below hown hQ _, (hu.grown hg fun k hk => .inr (hv k hk)).setCell (.inl rfl) _⟩
  have h1 : wy.heap[Q]? = some (.cells #[.int .i64 keep, v, .int .i64 done1] 31 (0, 0)) := (hg.block Q (Nat.lt_of_lt_of_le hQ hu.size) (fun e => by have := hv Q e.symm; omega)).trans hrow
  exact heap_setCell_same wy Q 1 _ 31 v' h1
theorem OutAt.start (h : w9.heap[Q]? = some (.cells #[.int .i64 keep, .slice none 0 0, .int .i64 done1] 31 (0, 0))) : OutAt w9 Q keep done1 (.slice none 0 0) [] w9 :=
  ⟨h, World.ownsRow_nil w9 _ _ _, Upd.refl _ _⟩

/-- The list without the entry at j, one entry more. -/
theorem erase_take_same (L : List Rq) {k j : Nat} (h : k = j) : (L.take (k + 1)).eraseIdx j = (L.take k).eraseIdx j := by
  subst h
  rw [List.eraseIdx_of_length_le (l := L.take k) (by rw [List.length_take]; omega), List.eraseIdx_eq_take_drop_succ, List.take_take, List.drop_eq_nil_of_le (by rw [List.length_take]; omega), List.append_nil, Nat.min_eq_left (by omega)]
theorem erase_take_next (L : List Rq) {k j : Nat} (hk : k < L.length) (h : k ≠ j) : (L.take (k + 1)).eraseIdx j = (L.take k).eraseIdx j ++ [L[k]] := by
  rw [List.take_succ_eq_append_getElem hk]
  rcases Nat.lt_or_ge j k with h1 | h1
  · rw [List.eraseIdx_append_of_lt_length (by rw [List.length_take]; omega)]
  · rw [List.eraseIdx_of_length_le (by rw [List.length_append, List.length_take, List.length_singleton]; omega), List.eraseIdx_of_length_le (by rw [List.length_take]; omega)]
theorem erase_take_len (L : List Rq) (k j : Nat) : ((L.take k).eraseIdx j).length ≤ k := by
  have := List.length_eraseIdx_le (L.take k) j
  rw [List.length_take] at this
  omega

end Go.Proofs.Ytaglidlibocgpaa
