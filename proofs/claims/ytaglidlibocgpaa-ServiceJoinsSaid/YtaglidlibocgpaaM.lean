/-
  A map from integers to values, as a plain function: what a look-up returns, and what a store leaves.
-/
import Derived.Test.YtaglidlibocgpaaD
import Derived.Maps.OwnOps
namespace Go.Proofs.Ytaglidlibocgpaa
open Go.RowKit Go.Maps

/-- The first entry's value at a key. -/
def valueAt (k : Int) : List MapEntry → Option Value
  | [] => none
  | e :: es => match e.key with
    | .int .i64 n => if n = k then some e.val else valueAt k es
    | _ => valueAt k es

/-- Block b is a map whose keys are ints, and which holds f k at k. -/
def MapIs (w : World) (b : Nat) (f : Int → Option Value) : Prop :=
  ∃ es clock, w.heap[b]? = some (.map es clock) ∧ (∀ e ∈ es.toList, ∃ n, e.key = .int .i64 n) ∧ ∀ k, f k = valueAt k es.toList

theorem findNow_int (k : Int) : ∀ (es : List MapEntry) (i : Nat), (∀ e ∈ es, ∃ n, e.key = .int .i64 n) →
    (Instr.findNow (.int .i64) (.int .i64 k) es i = some none ∧ valueAt k es = none) ∨
    ∃ j e, Instr.findNow (.int .i64) (.int .i64 k) es i = some (some (i + j, e.val)) ∧ es[j]? = some e ∧ e.key = .int .i64 k ∧ valueAt k es = some e.val ∧ ∀ j' e', j' < j → es[j']? = some e' → e'.key ≠ .int .i64 k
  | [], i, _ => .inl ⟨rfl, rfl⟩
  | e :: es, i, h => by
    obtain ⟨n, hn⟩ := h e (by simp)
    by_cases hk : n = k
    · subst hk
      exact .inr ⟨0, e, by simp [Instr.findNow, Instr.sameNow, hn], rfl, hn, by simp [valueAt, hn], fun j' e' hj => by omega⟩
    · rcases findNow_int k es (i + 1) (fun e he => h e (by simp [he])) with ⟨h1, h2⟩ | ⟨j, e', h1, h2, h3, h4, h5⟩
      · refine .inl ⟨?_, by simp [valueAt, hn, hk, h2]⟩
        have : (k == n) = false := by simp [Ne.symm hk]
        simp [Instr.findNow, Instr.sameNow, hn, this, h1]
      · refine .inr ⟨j + 1, e', ?_, by simpa using h2, h3, by simp [valueAt, hn, hk, h4], fun j' e'' hj he => ?_⟩
        · have : (k == n) = false := by simp [Ne.symm hk]
          simp [Instr.findNow, Instr.sameNow, hn, this, h1]; omega
        · cases j' with
          | zero => simp at he; subst he; rw [hn]; simpa using hk
          | succ j' => exact h5 j' e'' (by omega) (by simpa using he)

theorem valueAt_push (es : List MapEntry) (k k' : Int) (v : Value) (born : Nat) (h : valueAt k es = none) :
    valueAt k' (es ++ [{ key := .int .i64 k, val := v, born := born }]) = if k' = k then some v else valueAt k' es := by
  induction es with
  | nil => simp [valueAt, eq_comm]
  | cons e es ih =>
    simp only [List.cons_append, valueAt] at h ⊢
    split at h
    · rename_i n hn
      by_cases hk : n = k
      · simp [hk] at h
      · simp only [if_neg hk] at h
        rw [ih h]
        by_cases hk' : n = k'
        · subst hk'; simp [hk]
        · simp [hk']
    · exact ih h
theorem valueAt_set (es : List MapEntry) (k k' : Int) (v : Value) (j : Nat) (e : MapEntry) (he : es[j]? = some e) (hk : e.key = .int .i64 k)
    (hf : ∀ j' e', j' < j → es[j']? = some e' → e'.key ≠ .int .i64 k) :
    valueAt k' (es.set j { e with key := .int .i64 k, val := v }) = if k' = k then some v else valueAt k' es := by
  induction es generalizing j with
  | nil => simp at he
  | cons x es ih =>
    cases j with
    | zero =>
      simp at he; subst he
      simp only [List.set_cons_zero, valueAt, hk]
      by_cases h : k = k'
      · simp [h]
      · simp [h, Ne.symm h]
    | succ j =>
      have hx := hf 0 x (by omega) rfl
      simp only [List.set_cons_succ, valueAt]
      have ih' := ih j (by simpa using he) (fun j' e' hj h => hf (j' + 1) e' (by omega) (by simpa using h))
      split
      · rename_i n hn
        have : n ≠ k := fun h => hx (by rw [hn, h])
        by_cases h : n = k'
        · subst h; simp [this]
        · simp [h, ih']
      · exact ih'

theorem checkKey_int {P : Program} {w : World} {kt : TypeId} (hk : P.underlying kt = some (.int .i64)) (em : Bool) (n : Nat) (k : Int) : (Instr.checkKey em (n + 1) kt (.int .i64 k)).run P w = .ok () w := by
  simp [Instr.checkKey, run_underlying hk]

theorem run_lookup_is {P : Program} {w : World} {t kt et : TypeId} {b : Nat} {f : Int → Option Value} {z : Value} (h : MapIs w b f) (ht : P.underlying t = some (.map kt et)) (hk : P.underlying kt = some (.int .i64))
    (hz : (zeroValue et).run P w = .ok z w) (k : Int) : (Instr.lookup t (.map (some b)) (.int .i64 k) false).run P w = .ok ((f k).getD z) w := by
  obtain ⟨es, clock, hb, hkeys, hf⟩ := h
  have hc : (Instr.checkKey es.isEmpty 10000 kt (.int .i64 k)).run P w = .ok () w := checkKey_int hk _ 9999 k
  rcases findNow_int k es.toList 0 hkeys with ⟨h1, h2⟩ | ⟨j, e, h1, _, _, h4, _⟩
  · simp [Instr.lookup, run_underlying ht, MapKept.run_getObj_map hb, hc, Instr.findKey, run_underlying hk, h1, hz, hf, h2]
  · simp [Instr.lookup, run_underlying ht, MapKept.run_getObj_map hb, hc, Instr.findKey, run_underlying hk, h1, hf, h4]

theorem run_update_is {P : Program} {w : World} {t kt et : TypeId} {b : Nat} {f : Int → Option Value} (h : MapIs w b f) (ht : P.underlying t = some (.map kt et)) (hk : P.underlying kt = some (.int .i64))
    (k : Int) (v : Value) : ∃ w', (Instr.mapUpdate t (.map (some b)) (.int .i64 k) v).run P w = .ok () w' ∧ MapIs w' b (fun x => if x = k then some v else f x) ∧ w.grownBy w' (some b) ∧ w'.heap.size = w.heap.size := by
  obtain ⟨es, clock, hb, hkeys, hf⟩ := h
  have hc : (Instr.checkKey false 10000 kt (.int .i64 k)).run P w = .ok () w := checkKey_int hk _ 9999 k
  have hg : ∀ o, w.grownBy (ChangeMaps.setBlock w b o) (some b) := fun o => ⟨rfl, rfl, rfl, by simp [ChangeMaps.setBlock], fun i _ hi => ChangeMaps.heap_setBlock_other hb _ (fun e => hi (by rw [e]))⟩
  have hsz : ∀ o, (ChangeMaps.setBlock w b o).heap.size = w.heap.size := fun o => by simp [ChangeMaps.setBlock]
  rcases findNow_int k es.toList 0 hkeys with ⟨h1, h2⟩ | ⟨j, e, h1, hj, hek, h4, h5⟩
  · refine ⟨ChangeMaps.setBlock w b (.map (es.push { key := .int .i64 k, val := v, born := clock }) (clock + 1)), ?_, ⟨_, _, ChangeMaps.heap_setBlock_same hb _, ?_, ?_⟩, hg _, hsz _⟩
    · simp [Instr.mapUpdate, run_underlying ht, MapKept.run_getObj_map hb, hc, Instr.findKey, run_underlying hk, h1, MapKept.run_setObj_map _ hb, ChangeMaps.setBlock]
    · intro e he
      simp only [Array.toList_push, List.mem_append, List.mem_singleton] at he
      rcases he with he | rfl
      · exact hkeys e he
      · exact ⟨k, rfl⟩
    · intro x
      rw [Array.toList_push, valueAt_push _ _ _ _ _ h2, ← hf x]
  · have hjlt : j < es.size := by
      have := (List.getElem?_eq_some_iff.1 hj).1
      simpa using this
    have hje : es[j] = e := by
      have := (List.getElem?_eq_some_iff.1 hj).2
      simpa using this
    have hst : (Instr.keyThatStays (.int .i64 k) (.int .i64 k)).run P w = .ok (.int .i64 k) w := by
      simp [Instr.keyThatStays, Instr.sameBits]
    refine ⟨ChangeMaps.setBlock w b (.map (es.modify j fun e => { e with key := .int .i64 k, val := v }) clock), ?_, ⟨_, _, ChangeMaps.heap_setBlock_same hb _, ?_, ?_⟩, hg _, hsz _⟩
    · simp only [Nat.zero_add] at h1
      simp [Instr.mapUpdate, run_underlying ht, MapKept.run_getObj_map hb, hc, Instr.findKey, run_underlying hk, h1, MapKept.run_setObj_map _ hb, ChangeMaps.setBlock, hjlt, hje, hek, hst]
    · intro e' he'
      rw [Array.toList_modify] at he'
      obtain ⟨i, hi, rfl⟩ := List.getElem_of_mem he'
      rw [List.getElem_modify]
      split
      · exact ⟨k, rfl⟩
      · exact hkeys _ (List.getElem_mem _)
    · intro x
      have : (es.modify j fun e => { e with key := .int .i64 k, val := v }).toList = es.toList.set j { e with key := .int .i64 k, val := v } := by
        rw [Array.toList_modify]
        apply List.ext_getElem?
        intro i
        rw [List.getElem?_modify, List.getElem?_set]
        by_cases hi : j = i
        · subst hi; simp [hjlt, hje]
        · simp [hi]
      rw [this, valueAt_set _ _ _ _ _ _ hj hek h5, ← hf x]

theorem MapIs.upd {F : Nat → Prop} {w w' : World} {b : Nat} {f : Int → Option Value} (h : MapIs w b f) (hu : Upd F w w') (hn : ¬ F b) : MapIs w' b f := by
  obtain ⟨es, clock, hb, h1, h2⟩ := h
  exact ⟨es, clock, (hu.block b (Array.getElem?_eq_some_iff.1 hb).1 hn).trans hb, h1, h2⟩
theorem MapIs.lt {w : World} {b : Nat} {f : Int → Option Value} (h : MapIs w b f) : b < w.heap.size := by
  obtain ⟨es, clock, hb, _⟩ := h
  exact (Array.getElem?_eq_some_iff.1 hb).1
theorem MapIs.made (w : World) : MapIs (w.alloc (.map #[] 0)) w.heap.size (fun _ => none) :=
  ⟨#[], 0, (MapKept.heap_alloc w _).1, by simp, by simp [valueAt]⟩

/-- A store into a map, for the walk, where its run is known. -/
theorem wpList_update_run {P : Program} {w : World} {ops : Array Oper} {rest : List Oper} {o : Oper} {a : Act} {Q : Exit → Act → World → Prop}
    (hg : o.guard = none) (m x v : Operand) (t : TypeId) (hop : o.op = Op.mapUpdate t m x v) (M X V : Value) (hm : a.eval m = M) (hx : a.eval x = X) (hv : a.eval v = V) {w' : World}
    (hr : (Instr.mapUpdate t M X V).run P w = .ok () w') (h : wpList P ops Q rest (a.put o.dst undef) w') : wpList P ops Q (o :: rest) a w := by
  refine wpList_plain hg fun K hK => ?_
  unfold Oper.wp
  simp [execOp, hop, hm, hx, hv, hr, Result.andThen]
  exact hK _ _ h

theorem MapIs.drew {w : World} {b : Nat} {f : Int → Option Value} (h : MapIs w b f) : MapIs w.drew b f := h

end Go.Proofs.Ytaglidlibocgpaa
