/-
  Poll and Failed as plain functions of a client, and what holds of memory after so many rounds of their loops.
-/
import Derived.Test.YtaglidlibocgpaaP
namespace Go.Proofs.Ytaglidlibocgpaa
open Go.RowKit

/-- Whether a request of a call is to be sent. -/
def isDue (retry tries t : Int) (x : Asked) : Bool := x.state == 0 && decide (x.sent < dueN retry tries x.time t)
def pollOne (retry tries t : Int) (x : Asked) : Asked := if isDue retry tries t x = true then { x with sent := dueN retry tries x.time t } else x
def pollOut (id retry tries t : Int) (i : Nat) : List Asked → List Rq
  | [] => []
  | x :: r => (if isDue retry tries t x = true then [⟨id, (i : Int) + 1, x.text⟩] else []) ++ pollOut id retry tries t (i + 1) r
def pollC (C : Cl) (t : Int) : Cl × List Rq := ({ C with calls := C.calls.map (pollOne C.retry C.tries t) }, pollOut C.id C.retry C.tries t 0 C.calls)

theorem pollOut_snoc (id retry tries t : Int) (x : Asked) : ∀ (l : List Asked) (i : Nat), pollOut id retry tries t i (l ++ [x]) = pollOut id retry tries t i l ++ (if isDue retry tries t x = true then [⟨id, ((i + l.length : Nat) : Int) + 1, x.text⟩] else [])
  | [], i => by simp [pollOut]
  | y :: l, i => by
    simp only [List.cons_append, pollOut, pollOut_snoc id retry tries t x l (i + 1), List.append_assoc, List.length_cons]
    rw [show i + 1 + l.length = i + (l.length + 1) by omega]
theorem pollOut_length (id retry tries t : Int) : ∀ (l : List Asked) (i : Nat), (pollOut id retry tries t i l).length ≤ l.length
  | [], i => by simp [pollOut]
  | y :: l, i => by
    have := pollOut_length id retry tries t l (i + 1)
    simp only [pollOut, List.length_append, List.length_cons]
    split <;> simp <;> omega

/-- Whether a call fails by a time. -/
def isLost (retry tries t : Int) (x : Asked) : Bool := x.state == 0 && decide (x.time + tries * retry ≤ t)
def failOne (retry tries t : Int) (x : Asked) : Asked := if isLost retry tries t x = true then { x with state := 2 } else x
def failOut (retry tries t : Int) (i : Nat) : List Asked → List Int
  | [] => []
  | x :: r => (if isLost retry tries t x = true then [(i : Int) + 1] else []) ++ failOut retry tries t (i + 1) r
def failC (C : Cl) (t : Int) : Cl × List Int := ({ C with calls := C.calls.map (failOne C.retry C.tries t) }, failOut C.retry C.tries t 0 C.calls)
theorem failOut_snoc (retry tries t : Int) (x : Asked) : ∀ (l : List Asked) (i : Nat), failOut retry tries t i (l ++ [x]) = failOut retry tries t i l ++ (if isLost retry tries t x = true then [((i + l.length : Nat) : Int) + 1] else [])
  | [], i => by simp [failOut]
  | y :: l, i => by
    simp only [List.cons_append, failOut, failOut_snoc retry tries t x l (i + 1), List.append_assoc, List.length_cons]
    rw [show i + 1 + l.length = i + (l.length + 1) by omega]
theorem failOut_length (retry tries t : Int) : ∀ (l : List Asked) (i : Nat), (failOut retry tries t i l).length ≤ l.length
  | [], i => by simp [failOut]
  | y :: l, i => by
    have := failOut_length retry tries t l (i + 1)
    simp only [failOut, List.length_append, List.length_cons]
    split <;> simp <;> omega

/-- The first k calls changed by f. -/
def upTo (f : Asked → Asked) (l : List Asked) (k : Nat) : List Asked := (l.take k).map f ++ l.drop k
theorem upTo_zero (f : Asked → Asked) (l : List Asked) : upTo f l 0 = l := by simp [upTo]
theorem upTo_all (f : Asked → Asked) (l : List Asked) (k : Nat) (h : l.length ≤ k) : upTo f l k = l.map f := by
  unfold upTo
  rw [List.take_of_length_le h, List.drop_eq_nil_of_le h, List.append_nil]
theorem upTo_length (f : Asked → Asked) (l : List Asked) (k : Nat) : (upTo f l k).length = l.length := by
  unfold upTo
  simp
  omega
theorem upTo_get (f : Asked → Asked) (l : List Asked) (k : Nat) (h : k < l.length) : (upTo f l k)[k]'(by rw [upTo_length]; exact h) = l[k] := by
  have e : (upTo f l k)[k]? = l[k]? := by
    unfold upTo
    rw [List.getElem?_append_right (by simp; omega)]
    simp
    rw [Nat.min_eq_left (by omega)]
    simp
  rw [List.getElem?_eq_getElem h, List.getElem?_eq_getElem (by rw [upTo_length]; exact h)] at e
  exact Option.some.inj e
theorem upTo_succ (f : Asked → Asked) (l : List Asked) (k : Nat) (h : k < l.length) : upTo f l (k + 1) = (upTo f l k).set k (f l[k]) := by
  unfold upTo
  have e : l.drop k = l[k] :: l.drop (k + 1) := (List.getElem_cons_drop h).symm
  have hl : ((l.take k).map f).length = k := by simp; omega
  rw [List.take_succ_eq_append_getElem h, List.map_append, e, List.set_append_right _ _ (by omega), hl, Nat.sub_self, List.set_cons_zero]
  simp
theorem upTo_same (f : Asked → Asked) (l : List Asked) (k : Nat) (h : k < l.length) (hf : f l[k] = l[k]) : upTo f l (k + 1) = upTo f l k := by
  rw [upTo_succ f l k h, hf, ← upTo_get f l k h]
  exact List.set_getElem_self _

/-- What holds after k rounds: the first k calls are changed, what goes out is owned; of old memory the calls' row alone is written. -/
structure Rounds (f : Asked → Asked) (e size : Nat) (out : List Value) (n : Nat) (cb : Nat) (C : Cl) (v : Value) (w : World) (k : Nat) (vo : Value) (wr : World) : Prop where
  mem : Mem wr cb { C with calls := upTo f C.calls k } v
  own : wr.ownsRow w.heap.size e size vo n out
  upd : Upd (fun k => v.ownBlock = some k) w wr

theorem Mem.lt {w : World} {cb : Nat} {C : Cl} {v : Value} (M : Mem w cb C v) : cb < w.heap.size := (Array.getElem?_eq_some_iff.1 M.row).1
theorem Mem.vlt {w : World} {cb : Nat} {C : Cl} {v : Value} (M : Mem w cb C v) {b : Nat} (h : v.ownBlock = some b) : b < w.heap.size := (M.own.lt b h).2

theorem Rounds.start {f : Asked → Asked} {e size : Nat} {cb : Nat} {C : Cl} {v : Value} {w : World} (M : Mem w cb C v) : Rounds f e size [] 0 cb C v w 0 (.slice none 0 0) w :=
  ⟨by rw [upTo_zero]; exact M, World.ownsRow_nil w _ _ _, Upd.refl _ _⟩

theorem Mem.below {w w' : World} {cb : Nat} {C : Cl} {v : Value} (M : Mem w cb C v) (hb : Below w.heap.size w w') : Mem w' cb C v :=
  ⟨(hb.block cb M.lt).trans M.row, owns_below M.own hb⟩
theorem Mem.upd {F : Nat → Prop} {w w' : World} {cb : Nat} {C : Cl} {v : Value} (M : Mem w cb C v) (hu : Upd F w w') (h1 : ¬ F cb) (h2 : ∀ b, v.ownBlock = some b → ¬ F b) : Mem w' cb C v := by
  refine ⟨(hu.block cb M.lt h1).trans M.row, ?_⟩
  refine ⟨M.own.1, ?_⟩
  rcases M.own.2 with h | ⟨g, cap, cur, rfl, hb, hg, r⟩
  · exact .inl h
  · exact .inr ⟨g, cap, cur, rfl, hb, (hu.block g (Array.getElem?_eq_some_iff.1 hg).1 (h2 g rfl)).trans hg, r⟩
/-- One cell of one call written. -/
theorem Mem.store {w : World} {cb g n cap : Nat} {C : Cl} (M : Mem w cb C (.slice (some ⟨g, 0, none⟩) n cap)) {k j : Nat} {x : Asked} {u : Value} (h : k < C.calls.length) (hj : j < 5) (hx : C.calls[k].cells.set j u = x.cells) :
    Mem (w.setCell ⟨g, k * 5 + j, none⟩ u) cb { C with calls := C.calls.set k x } (.slice (some ⟨g, 0, none⟩) n cap) := by
  have hap := M.apart
  have hne : cb ≠ g := fun e => hap (by rw [e]; rfl)
  have hn : n = C.calls.length := by
    rcases M.own.2 with ⟨h', _⟩ | ⟨g', cap', cur, h', _⟩
    · cases h'
    · cases h'; rfl
  subst hn
  refine ⟨(Below.heap_setCell _ _ _ _ hne).trans M.row, ?_⟩
  have := (M.own.stored (k * 5 + j) u).1
  rw [askeds_set C.calls k j x u h hj hx] at this
  simpa using this

theorem Rounds.keep {f : Asked → Asked} {e size : Nat} {out : List Value} {n cb : Nat} {C : Cl} {v : Value} {w wr w' : World} {k : Nat} {vo : Value} (R : Rounds f e size out n cb C v w k vo wr) (hb : Below wr.heap.size wr w') (h : k < C.calls.length) (hf : f C.calls[k] = C.calls[k]) :
    Rounds f e size out n cb C v w (k + 1) vo w' := by
  refine ⟨?_, owns_below R.own hb, R.upd.trans (Upd.of_new (F := fun _ => False) hb) (fun _ h => h.elim)⟩
  rw [upTo_same f C.calls k h hf]
  exact R.mem.below hb

/-- A round in which a cell of the call is written. -/
theorem Rounds.hit {f : Asked → Asked} {e size : Nat} {out : List Value} {n cb g m cap : Nat} {C : Cl} {w wr w1 : World} {k j : Nat} {vo u : Value} (R : Rounds f e size out n cb C (.slice (some ⟨g, 0, none⟩) m cap) w k vo wr) (hb : Below wr.heap.size wr w1)
    (h : k < C.calls.length) (hj : j < 5) (hf : C.calls[k].cells.set j u = (f C.calls[k]).cells) (hg : g < w.heap.size) :
    Mem (w1.setCell ⟨g, k * 5 + j, none⟩ u) cb { C with calls := upTo f C.calls (k + 1) } (.slice (some ⟨g, 0, none⟩) m cap) ∧ (w1.setCell ⟨g, k * 5 + j, none⟩ u).ownsRow w.heap.size e size vo n out ∧
      Upd (fun k => (Value.slice (some ⟨g, 0, none⟩) m cap).ownBlock = some k) w (w1.setCell ⟨g, k * 5 + j, none⟩ u) := by
  have hl : k < (upTo f C.calls k).length := by rw [upTo_length]; exact h
  have hx := upTo_get f C.calls k h
  refine ⟨?_, ownsRow_setCell_below (owns_below R.own hb) (a := ⟨g, k * 5 + j, none⟩) hg u, (R.upd.trans (Upd.of_new (F := fun _ => False) hb) (fun _ h => h.elim)).setCell (p := ⟨g, k * 5 + j, none⟩) (.inl rfl) u⟩
  have := (R.mem.below hb).store (k := k) (j := j) (x := f C.calls[k]) (u := u) hl hj (by dsimp only; rw [hx]; exact hf)
  rw [upTo_succ f C.calls k h]
  exact this
/-- .. and something is appended to what goes out. -/
theorem Rounds.out {f : Asked → Asked} {e size : Nat} {out out' : List Value} {n n' cb : Nat} {C : Cl} {v : Value} {w w2 w3 w4 : World} {k : Nat} {vo vo' : Value} {o : Obj}
    (H : Mem w2 cb { C with calls := upTo f C.calls (k + 1) } v ∧ w2.ownsRow w.heap.size e size vo n out ∧ Upd (fun k => v.ownBlock = some k) w w2) (hcb : cb < w.heap.size) (hv : ∀ b, v.ownBlock = some b → b < w.heap.size)
    (h3 : w3.heap = (w2.alloc o).heap) (h3' : w3.os = w2.os ∧ w3.tape = w2.tape ∧ w3.output = w2.output) (hg : w3.grownBy w4 vo.ownBlock) (hown : w4.ownsRow w.heap.size e size vo' n' out') :
    Rounds f e size out' n' cb C v w (k + 1) vo' w4 := by
  obtain ⟨hm, ho, hu⟩ := H
  have b3 : Below w2.heap.size w2 w3 := ⟨h3'.1, h3'.2.1, h3'.2.2, by rw [h3]; simp, fun i hi => by rw [h3]; exact Below.heap_alloc w2 o i hi⟩
  have u4 : Upd (fun k => vo.ownBlock = some k) w3 w4 := (Upd.refl _ _).grown hg (fun k hk => .inl hk)
  have hvo : ∀ b, vo.ownBlock = some b → w.heap.size ≤ b := fun b hb => (ho.lt b hb).1
  refine ⟨(hm.below b3).upd u4 (fun h => by have := hvo _ h; omega) (fun b hb h => by have := hvo _ h; have := hv b hb; omega), hown, ?_⟩
  exact (hu.trans (Upd.of_new (F := fun _ => False) b3) (fun _ h => h.elim)).trans u4 (fun i hi => .inr (hvo i hi))

end Go.Proofs.Ytaglidlibocgpaa
