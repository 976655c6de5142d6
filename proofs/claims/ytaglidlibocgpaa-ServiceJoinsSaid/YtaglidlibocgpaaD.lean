/-
  Plain data of the service (calls, asked calls), how it lies in memory, and what a function may change there: lemmas on worlds, no program.
-/
import Derived.WalkKit
import Derived.WalkSpells
import Derived.WalkLawsBesides
namespace Go.Proofs.Ytaglidlibocgpaa
open Go.RowKit

/-- A fact kept from the walk. -/
theorem hid {p : Prop} (h : p) : Hid p := h

/-- A request or a reply. -/
structure Rq where
  client : Int
  number : Int
  text : ByteArray

/-- A call of a client. -/
structure Asked where
  text : ByteArray
  time : Int
  sent : Int
  state : Int
  reply : ByteArray

def Rq.cells (r : Rq) : List Value := [.int .i64 r.client, .int .i64 r.number, .string r.text]
def Asked.cells (x : Asked) : List Value := [.string x.text, .int .i64 x.time, .int .i64 x.sent, .int .i64 x.state, .string x.reply]
def rqs (l : List Rq) : List Value := l.flatMap Rq.cells
def askeds (l : List Asked) : List Value := l.flatMap Asked.cells
def Rq.value (r : Rq) : Value := .agg #[.int .i64 r.client, .int .i64 r.number, .string r.text]

theorem rqs_nil : rqs [] = [] := rfl
theorem rqs_cons (r : Rq) (l : List Rq) : rqs (r :: l) = r.cells ++ rqs l := rfl
theorem rqs_append (a b : List Rq) : rqs (a ++ b) = rqs a ++ rqs b := by simp [rqs]
theorem rqs_length (l : List Rq) : (rqs l).length = l.length * 3 := by
  induction l with
  | nil => rfl
  | cons r l ih => simp [rqs_cons, Rq.cells, ih]; omega
theorem rqs_take (l : List Rq) (n : Nat) : rqs (l.take n) = (rqs l).take (n * 3) := by
  induction l generalizing n with
  | nil => simp [rqs_nil]
  | cons r l ih =>
    cases n with
    | zero => simp [rqs_nil]
    | succ n => rw [List.take_succ_cons, rqs_cons, ih, rqs_cons, show (n + 1) * 3 = n * 3 + 1 + 1 + 1 by omega]; simp [Rq.cells]
theorem rqs_drop (l : List Rq) (n : Nat) : rqs (l.drop n) = (rqs l).drop (n * 3) := by
  induction l generalizing n with
  | nil => simp [rqs_nil]
  | cons r l ih =>
    cases n with
    | zero => simp
    | succ n => rw [List.drop_succ_cons, ih, rqs_cons, show (n + 1) * 3 = n * 3 + 1 + 1 + 1 by omega]; simp [Rq.cells]
theorem rqs_one (l : List Rq) (v : Value) (h : v ∈ rqs l) : v.oneCell' = true := by
  obtain ⟨r, _, hr⟩ := List.mem_flatMap.1 h
  simp only [Rq.cells, List.mem_cons, List.not_mem_nil, or_false] at hr
  rcases hr with rfl | rfl | rfl <;> rfl
theorem rqs_get (l : List Rq) (i : Nat) (h : i < l.length) :
    (rqs l)[i * 3]? = some (.int .i64 l[i].client) ∧ (rqs l)[i * 3 + 1]? = some (.int .i64 l[i].number) ∧ (rqs l)[i * 3 + 2]? = some (.string l[i].text) := by
  have e : rqs l = rqs (l.take i) ++ (l[i].cells ++ rqs (l.drop (i + 1))) := by
    rw [← rqs_cons, ← rqs_append, List.getElem_cons_drop, List.take_append_drop]
  have hl : (rqs (l.take i)).length = i * 3 := by rw [rqs_length, List.length_take, Nat.min_eq_left (by omega)]
  rw [e]
  refine ⟨?_, ?_, ?_⟩
  · rw [List.getElem?_append_right (by omega), hl]; simp [Rq.cells]
  · rw [List.getElem?_append_right (by omega), hl]; simp [Rq.cells]
  · rw [List.getElem?_append_right (by omega), hl]; simp [Rq.cells]

theorem askeds_nil : askeds [] = [] := rfl
theorem askeds_cons (r : Asked) (l : List Asked) : askeds (r :: l) = r.cells ++ askeds l := rfl
theorem askeds_append (a b : List Asked) : askeds (a ++ b) = askeds a ++ askeds b := by simp [askeds]
theorem askeds_length (l : List Asked) : (askeds l).length = l.length * 5 := by
  induction l with
  | nil => rfl
  | cons r l ih => simp [askeds_cons, Asked.cells, ih]; omega
theorem askeds_one (l : List Asked) (v : Value) (h : v ∈ askeds l) : v.oneCell' = true := by
  obtain ⟨r, _, hr⟩ := List.mem_flatMap.1 h
  simp only [Asked.cells, List.mem_cons, List.not_mem_nil, or_false] at hr
  rcases hr with rfl | rfl | rfl | rfl | rfl <;> rfl
theorem askeds_split (l : List Asked) (i : Nat) (h : i < l.length) : askeds l = askeds (l.take i) ++ (l[i].cells ++ askeds (l.drop (i + 1))) := by
  rw [← askeds_cons, ← askeds_append, List.getElem_cons_drop, List.take_append_drop]
theorem askeds_get (l : List Asked) (i : Nat) (h : i < l.length) :
    (askeds l)[i * 5]? = some (.string l[i].text) ∧ (askeds l)[i * 5 + 1]? = some (.int .i64 l[i].time) ∧ (askeds l)[i * 5 + 2]? = some (.int .i64 l[i].sent) ∧
    (askeds l)[i * 5 + 3]? = some (.int .i64 l[i].state) ∧ (askeds l)[i * 5 + 4]? = some (.string l[i].reply) := by
  have hl : (askeds (l.take i)).length = i * 5 := by rw [askeds_length, List.length_take, Nat.min_eq_left (by omega)]
  rw [askeds_split l i h]
  refine ⟨?_, ?_, ?_, ?_, ?_⟩ <;> (rw [List.getElem?_append_right (by omega), hl]; simp [Asked.cells])
/-- One cell of one call set: the list of the calls with that call changed. -/
theorem askeds_set (l : List Asked) (i j : Nat) (x : Asked) (v : Value) (h : i < l.length) (hj : j < 5) (hx : l[i].cells.set j v = x.cells) : (askeds l).set (i * 5 + j) v = askeds (l.set i x) := by
  have hl : (askeds (l.take i)).length = i * 5 := by rw [askeds_length, List.length_take, Nat.min_eq_left (by omega)]
  have e : l.set i x = l.take i ++ (x :: l.drop (i + 1)) := by rw [List.set_eq_take_append_cons_drop, if_pos h]
  rw [askeds_split l i h, List.set_append_right _ _ (by omega), hl, show i * 5 + j - i * 5 = j by omega, List.set_append_left _ _ (by simpa [Asked.cells] using hj), hx, e, askeds_append, askeds_cons]

/-- A slice value whose first n elements of 'size' cells are the cells xs. -/
def Reads (w : World) (v : Value) (n size : Nat) (xs : List Value) : Prop :=
  xs.length = n * size ∧ ∃ a cap, v = .slice a n cap ∧ n ≤ cap ∧ cap ≤ maxLen ∧ (a = none → cap = 0) ∧ ∀ g, a = some g → g.spot = none ∧ ∀ j u, xs[j]? = some u → w.cell? ⟨g.block, g.off + j, none⟩ = some u

/-- What may be written: the blocks of F, and new blocks. -/
structure Upd (F : Nat → Prop) (w w' : World) : Prop where
  os : w'.os = w.os
  tape : w'.tape = w.tape
  output : w'.output = w.output
  size : w.heap.size ≤ w'.heap.size
  block : ∀ k, k < w.heap.size → ¬ F k → w'.heap[k]? = w.heap[k]?

theorem Upd.refl (F : Nat → Prop) (w : World) : Upd F w w := ⟨rfl, rfl, rfl, Nat.le_refl _, fun _ _ _ => rfl⟩
/-- Two steps: the second may write the blocks of F and what the first one made. -/
theorem Upd.trans {F F' : Nat → Prop} {a b c : World} (h : Upd F a b) (k : Upd F' b c) (hF : ∀ i, F' i → F i ∨ a.heap.size ≤ i) : Upd F a c :=
  ⟨k.os.trans h.os, k.tape.trans h.tape, k.output.trans h.output, Nat.le_trans h.size k.size, fun i hi hn =>
    (k.block i (Nat.lt_of_lt_of_le hi h.size) (fun hf => (hF i hf).elim hn fun h1 => by omega)).trans (h.block i hi hn)⟩
theorem Upd.then {F : Nat → Prop} {a b c : World} (h : Upd F a b) (k : Upd F b c) : Upd F a c := h.trans k fun _ h => .inl h
theorem Upd.wider {F F' : Nat → Prop} {a b : World} (h : Upd F a b) (hF : ∀ i, F i → F' i ∨ a.heap.size ≤ i) : Upd F' a b :=
  ⟨h.os, h.tape, h.output, h.size, fun i hi hn => h.block i hi fun hf => (hF i hf).elim hn fun h1 => by omega⟩
theorem Upd.below {F : Nat → Prop} {B : Nat} {a b : World} (h : Upd F a b) (hB : B ≤ a.heap.size) (hF : ∀ i, F i → B ≤ i) : Below B a b :=
  ⟨h.os, h.tape, h.output, h.size, fun i hi => h.block i (by omega) fun hf => by have := hF i hf; omega⟩
theorem Upd.of_below {F : Nat → Prop} {B : Nat} {a b : World} (h : Below B a b) (hB : ∀ i, B ≤ i → i < a.heap.size → F i) : Upd F a b :=
  ⟨h.os, h.tape, h.output, h.size, fun i hi hn => h.block i (Nat.lt_of_not_le fun hb => hn (hB i hb hi))⟩
theorem Upd.of_new {F : Nat → Prop} {a b : World} (h : Below a.heap.size a b) : Upd F a b := Upd.of_below h fun i h1 h2 => by omega
theorem Upd.grown {F : Nat → Prop} {a w w' : World} {row : Option Nat} (h : Upd F a w) (hg : w.grownBy w' row) (hr : ∀ k, row = some k → F k ∨ a.heap.size ≤ k) : Upd F a w' :=
  ⟨hg.os.trans h.os, hg.tape.trans h.tape, hg.output.trans h.output, Nat.le_trans h.size hg.size, fun i hi hn =>
    (hg.block i (Nat.lt_of_lt_of_le hi h.size) (fun e => (hr i e.symm).elim hn fun h1 => by omega)).trans (h.block i hi hn)⟩
theorem Upd.alloc {F : Nat → Prop} {a w : World} (h : Upd F a w) (o : Obj) : Upd F a (w.alloc o) := h.grown (World.grownBy_alloc w o none) (by simp)
theorem Upd.drew {F : Nat → Prop} {a w : World} (h : Upd F a w) : Upd F a w.drew := ⟨h.os, h.tape, h.output, h.size, h.block⟩
theorem Upd.drewN {F : Nat → Prop} {a w : World} (h : Upd F a w) (n : Nat) : Upd F a (w.drewN n) := ⟨h.os, h.tape, h.output, h.size, h.block⟩
theorem Upd.setCell {F : Nat → Prop} {a w : World} (h : Upd F a w) {p : Addr} (hp : F p.block ∨ a.heap.size ≤ p.block) (u : Value) : Upd F a (w.setCell p u) :=
  ⟨h.os, h.tape, h.output, by simpa [World.setCell] using h.size, fun i hi hn => by
    rw [Below.heap_setCell _ _ _ _ (fun e => hp.elim (fun h1 => hn (by rw [e]; exact h1)) fun h1 => by omega)]; exact h.block i hi hn⟩
theorem Upd.cell {F : Nat → Prop} {w w' : World} (h : Upd F w w') {p : Addr} (hp : p.block < w.heap.size) (hn : ¬ F p.block) : w'.cell? p = w.cell? p := World.cell?_of_block (w := w) (h.block p.block hp hn)
theorem Upd.frozen {F : Nat → Prop} {w w' : World} (h : Upd F w w') {p : Addr} (hp : p.block < w.heap.size) (hn : ¬ F p.block) : w'.frozen? p = w.frozen? p := World.frozen?_of_block (w := w) (h.block p.block hp hn)

theorem Reads.same {w w' : World} {v : Value} {n size : Nat} {xs : List Value} (h : Reads w v n size xs) (hb : ∀ b, v.ownBlock = some b → b < w.heap.size → w'.heap[b]? = w.heap[b]?) : Reads w' v n size xs := by
  obtain ⟨hl, a, cap, rfl, hc, hm, h0, hx⟩ := h
  refine ⟨hl, a, cap, rfl, hc, hm, h0, fun g hg => ⟨(hx g hg).1, fun j u hu => ?_⟩⟩
  subst hg
  have hcell := (hx g rfl).2 j u hu
  have hlt := World.block_lt_of_cell? w _ hcell
  rw [World.cell?_of_block (w := w) (a := ⟨g.block, g.off + j, none⟩) (hb g.block (by simp [Value.ownBlock]) hlt)]
  exact hcell
theorem Reads.upd {F : Nat → Prop} {w w' : World} {v : Value} {n size : Nat} {xs : List Value} (h : Reads w v n size xs) (hu : Upd F w w') (hn : ∀ b, v.ownBlock = some b → ¬ F b) : Reads w' v n size xs :=
  h.same fun b hb hlt => hu.block b hlt (hn b hb)
theorem Reads.below {w w' : World} {v : Value} {n size : Nat} {xs : List Value} (h : Reads w v n size xs) (hu : Below w.heap.size w w') : Reads w' v n size xs :=
  h.same fun b _ hlt => hu.block b hlt
theorem Reads.drew {w : World} {v : Value} {n size : Nat} {xs : List Value} (h : Reads w v n size xs) : Reads w.drew v n size xs := h
theorem Reads.nil (w : World) (size : Nat) : Reads w (.slice none 0 0) 0 size [] :=
  ⟨by simp, none, 0, rfl, Nat.le_refl _, by simp [maxLen], fun _ => rfl, by simp⟩
theorem Reads.of_owns {w : World} {base e size n : Nat} {v : Value} {xs : List Value} (h : w.ownsRow base e size v n xs) : Reads w v n size xs := by
  refine ⟨h.1, ?_⟩
  rcases h.2 with ⟨rfl, rfl⟩ | ⟨g, cap, cur, rfl, hb, hg, hc, hm, hs, ht⟩
  · exact ⟨none, 0, rfl, Nat.le_refl _, by simp [maxLen], fun _ => rfl, by simp⟩
  · refine ⟨some ⟨g, 0, none⟩, cap, rfl, hc, hm, by simp, fun g' hg' => ?_⟩
    cases hg'
    refine ⟨rfl, fun j u hu => ?_⟩
    rw [show (0 : Nat) + j = j by omega, cell_of_row w g j cur e (0, 0) hg]
    rw [← ht, List.getElem?_take] at hu
    split at hu
    · simpa using hu
    · cases hu
/-- A slice that reads n > 0 elements has an address; its cells. -/
theorem Reads.addr {w : World} {a : Option Addr} {len cap n size : Nat} {xs : List Value} (h : Reads w (.slice a len cap) n size xs) (hn : 0 < n) : ∃ b o, a = some ⟨b, o, none⟩ := by
  obtain ⟨_, a', cap', e, hc, hm, h0, hx⟩ := h
  simp only [Value.slice.injEq] at e
  obtain ⟨rfl, rfl, rfl⟩ := e
  cases a with
  | none => have := h0 rfl; omega
  | some g => cases g with | mk b o s => have := (hx _ rfl).1; simp at this; subst this; exact ⟨b, o, rfl⟩
theorem Reads.cell {w : World} {b o len cap n size : Nat} {xs : List Value} (h : Reads w (.slice (some ⟨b, o, none⟩) len cap) n size xs) {j : Nat} {u : Value} (hj : xs[j]? = some u) : w.cell? ⟨b, o + j, none⟩ = some u := by
  obtain ⟨_, a', cap', e, hc, hm, h0, hx⟩ := h
  simp only [Value.slice.injEq] at e
  obtain ⟨rfl, rfl, rfl⟩ := e
  exact (hx _ rfl).2 j u hj
/-- What an owned slice's append may write lies from its base on. -/
theorem owns_block {w : World} {base e size n : Nat} {v : Value} {xs : List Value} (h : w.ownsRow base e size v n xs) : ∀ k, v.ownBlock = some k → base ≤ k := fun k hk => (h.lt k hk).1
/-- An owned slice that is not nil. -/
theorem owns_some {w : World} {base e size n : Nat} {v : Value} {xs : List Value} (h : w.ownsRow base e size v n xs) (hv : v ≠ .slice none 0 0) : ∃ g cap, v = .slice (some ⟨g, 0, none⟩) n cap ∧ base ≤ g ∧ n ≤ cap ∧ cap ≤ maxLen := by
  rcases h.2 with ⟨rfl, rfl⟩ | ⟨g, cap, cur, rfl, hb, hg, hc, hm, hs, ht⟩
  · exact absurd rfl hv
  · exact ⟨g, cap, rfl, hb, hc, hm⟩
theorem Reads.shape {w : World} {v : Value} {n size : Nat} {xs : List Value} (h : Reads w v n size xs) : ∃ a cap, v = .slice a n cap ∧ n ≤ cap ∧ cap ≤ maxLen := by
  obtain ⟨_, a', cap', e, hc, hm, _⟩ := h
  exact ⟨a', cap', e, hc, hm⟩

end Go.Proofs.Ytaglidlibocgpaa
