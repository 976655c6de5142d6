/-
  A client in memory: the contracts of its methods in the words of the plain functions; and what lies behind NewClient and NewServer.
-/
import Derived.Test.YtaglidlibocgpaaU
import Derived.Test.YtaglidlibocgpaaN
namespace Go.Proofs.Ytaglidlibocgpaa
open Go.RowKit

/-- The client C lies at block cb; F: all the blocks that it uses. -/
structure ClAt (w : World) (F : Nat → Prop) (cb : Nat) (C : Cl) : Prop where
  lt : ∀ k, F k → k < w.heap.size
  here : F cb
  mem : ∃ v, Mem w cb C v ∧ ∀ b, v.ownBlock = some b → F b

theorem ClAt.upd {F G : Nat → Prop} {w w' : World} {cb : Nat} {C : Cl} (h : ClAt w G cb C) (hu : Upd F w w') (hd : ∀ k, G k → ¬ F k) : ClAt w' G cb C := by
  obtain ⟨v, hm, hv⟩ := h.mem
  exact ⟨fun k hk => Nat.lt_of_lt_of_le (h.lt k hk) hu.size, h.here, v, hm.upd hu (hd cb h.here) (fun b hb => hd b (hv b hb)), hv⟩
theorem ClAt.below {G : Nat → Prop} {w w' : World} {cb : Nat} {C : Cl} (h : ClAt w G cb C) (hu : Below w.heap.size w w') : ClAt w' G cb C :=
  h.upd (Upd.of_new (F := fun _ => False) hu) (fun _ _ h => h)

/-- A method has turned the client into C'. -/
def ClTo (F : Nat → Prop) (cb : Nat) (C' : Cl) (w w' : World) : Prop := ∃ F', ClAt w' F' cb C' ∧ Upd F w w' ∧ ∀ k, F' k → F k ∨ w.heap.size ≤ k
theorem ClTo.same {F : Nat → Prop} {cb : Nat} {C : Cl} {w w' : World} (h : ClAt w F cb C) (hb : Below w.heap.size w w') : ClTo F cb C w w' := ⟨F, h.below hb, Upd.of_new hb, fun _ h => .inl h⟩
/-- .. and it uses the blocks that it used. -/
def ClIn (F : Nat → Prop) (cb : Nat) (C' : Cl) (w w' : World) : Prop := ClAt w' F cb C' ∧ Upd F w w'
theorem ClIn.turned {F : Nat → Prop} {cb : Nat} {C C' : Cl} {v : Value} {w w' : World} (h : ClAt w F cb C) (hv : ∀ b, v.ownBlock = some b → F b) (hm : Mem w' cb C' v) (hu : Upd (fun k => v.ownBlock = some k) w w') : ClIn F cb C' w w' :=
  ⟨⟨fun k hk => Nat.lt_of_lt_of_le (h.lt k hk) hu.size, h.here, v, hm, hv⟩, hu.wider fun k hk => .inl (hv k hk)⟩

/-- Ask, as a plain function. -/
def askC (C : Cl) (t : Int) (s : ByteArray) : Cl × Int × Int :=
  if t < 0 ∨ 1099511627776 < t then (C, 0, 4) else if 4000 < s.size then (C, 0, 3) else if 64 ≤ openN C.calls then (C, 0, 15)
  else ({ C with calls := C.calls ++ [⟨s, t, 0, 0, ⟨#[]⟩⟩] }, (C.calls.length : Int) + 1, 0)

theorem ask_at (cb : Nat) (F : Nat → Prop) (C : Cl) (t : Int) (s : ByteArray) (w : World) (h : ClAt w F cb C) (hl : C.calls.length ≤ 1000) (hs : s.size ≤ 4100) :
    Calls Try.prog 18 #[.pointer (some ⟨cb, 0, none⟩), .int .i64 t, .string s] w fun e w' => e = .returned (.tuple #[.int .i64 (askC C t s).2.1, .int .i64 (askC C t s).2.2]) ∧ ClTo F cb (askC C t s).1 w w' := by
  obtain ⟨v, hm, hv⟩ := h.mem
  unfold askC
  by_cases h1 : t < 0 ∨ 1099511627776 < t
  · rw [if_pos h1]
    exact (ask_range cb t s w h1).mono fun e w' ⟨he, hw⟩ => ⟨he, hw ▸ ClTo.same h (Below.refl _ _)⟩
  · rw [if_neg h1]
    by_cases h2 : 4000 < s.size
    · rw [if_pos h2]
      exact (ask_long cb t s w (by omega) (by omega) h2 hs).mono fun e w' ⟨he, hw⟩ => ⟨he, hw ▸ ClTo.same h (Below.refl _ _)⟩
    · rw [if_neg h2]
      by_cases h3 : 64 ≤ openN C.calls
      · rw [if_pos h3]
        exact (ask_full cb C t s v w hm (by omega) (by omega) (by omega) hl h3).mono fun e w' ⟨he, hb⟩ => ⟨he, ClTo.same h hb⟩
      · rw [if_neg h3]
        refine (ask_ok cb C t s v w hm (by omega) (by omega) (by omega) hl (by omega)).mono fun e w' ⟨he, v', hm', hu, hown⟩ => ⟨he, fun k => F k ∨ v'.ownBlock = some k, ⟨fun k hk => ?_, .inl h.here, v', hm', fun b hb => .inr hb⟩, hu.wider fun k hk => ?_, fun k hk => ?_⟩
        · rcases hk with hk | hk
          · exact Nat.lt_of_lt_of_le (h.lt k hk) hu.size
          · exact hm'.vlt hk
        · rcases hk with rfl | hk
          · exact .inl h.here
          · exact .inl (hv k hk)
        · rcases hk with hk | hk
          · exact .inl hk
          · rcases hown k hk with h' | h'
            · exact .inl (hv k h')
            · exact .inr h'

theorem poll_at (cb : Nat) (F : Nat → Prop) (C : Cl) (t : Int) (w : World) (h : ClAt w F cb C) (ok : ClOk C) (ht : t ≤ 9223372036854775807) :
    Calls Try.prog 19 #[.pointer (some ⟨cb, 0, none⟩), .int .i64 t] w fun e w' => ∃ vo, e = .returned vo ∧ w'.ownsRow w.heap.size 37 3 vo (pollC C t).2.length (rqs (pollC C t).2) ∧ ClIn F cb (pollC C t).1 w w' := by
  obtain ⟨v, hm, hv⟩ := h.mem
  exact (poll_any cb C t v w hm ok ht).mono fun e w' ⟨vo, he, ho, hm', hu⟩ => ⟨vo, he, ho, ClIn.turned h hv hm' hu⟩

theorem failed_at (cb : Nat) (F : Nat → Prop) (C : Cl) (t : Int) (w : World) (h : ClAt w F cb C) (ok : ClOk C) :
    Calls Try.prog 21 #[.pointer (some ⟨cb, 0, none⟩), .int .i64 t] w fun e w' => ∃ vo, e = .returned vo ∧ w'.ownsRow w.heap.size 3 1 vo (failC C t).2.length (nums (failC C t).2) ∧ ClIn F cb (failC C t).1 w w' := by
  obtain ⟨v, hm, hv⟩ := h.mem
  exact (failed_any cb C t v w hm ok).mono fun e w' ⟨vo, he, ho, hm', hu⟩ => ⟨vo, he, ho, ClIn.turned h hv hm' hu⟩

theorem reply_at (cb : Nat) (F : Nat → Prop) (C : Cl) (r : Rq) (w : World) (h : ClAt w F cb C) (hl : C.calls.length ≤ 1000) (hs : r.text.size ≤ maxLen) :
    Calls Try.prog 20 #[.pointer (some ⟨cb, 0, none⟩), .agg #[.int .i64 r.client, .int .i64 r.number, .string r.text]] w fun e w' => e = .returned (.tuple #[.bool (replyC C r).2.1, .int .i64 (replyC C r).2.2]) ∧ ClIn F cb (replyC C r).1 w w' := by
  obtain ⟨v, hm, hv⟩ := h.mem
  exact (reply_any cb C r v w hm hl hs).mono fun e w' ⟨he, hm', hu⟩ => ⟨he, ClIn.turned h hv hm' hu⟩

theorem result_at2 (cb : Nat) (F : Nat → Prop) (C : Cl) (n : Int) (w : World) (h : ClAt w F cb C) (hl : C.calls.length ≤ 1000) :
    Calls Try.prog 22 #[.pointer (some ⟨cb, 0, none⟩), .int .i64 n] w fun e w' => e = .returned (.tuple #[.string (resultC C n).1, .int .i64 (resultC C n).2]) ∧ w = w' := by
  obtain ⟨v, hm, hv⟩ := h.mem
  exact (result_any cb C n v w hm hl).mono fun e w' h => h

theorem cl_fresh (w : World) (id retry tries : Int) : ClAt (w.alloc (.cells #[.int .i64 id, .int .i64 retry, .int .i64 tries, .slice none 0 0] 84)) (fun k => k = w.heap.size) w.heap.size ⟨id, retry, tries, []⟩ :=
  ⟨fun k hk => by subst hk; simp, rfl, .slice none 0 0, ⟨heap_alloc_new w _, World.ownsRow_nil _ _ _ _⟩, by simp [Value.ownBlock]⟩

theorem sv_fresh (w : World) (keep : Int) : SvAt ((w.alloc (.map #[] 0)).alloc (.cells #[.int .i64 keep, .int .i64 0, .map (some w.heap.size)] 71)) (fun k => k = w.heap.size ∨ k = w.heap.size + 1) (w.heap.size + 1) ⟨keep, 0, fun _ => []⟩ := by
  have hs : (w.alloc (.map #[] 0)).heap.size = w.heap.size + 1 := by simp
  have h1 := heap_alloc_new (w.alloc (.map #[] 0)) (.cells #[.int .i64 keep, .int .i64 0, .map (some w.heap.size)] 71)
  rw [hs] at h1
  refine ⟨fun k hk => by simp; omega, .inr rfl, w.heap.size, fun _ => none, h1, ⟨#[], 0, ?_, fun e he => by simp at he, fun k => rfl⟩, .inl rfl, fun c => ⟨none, 0, rfl, Reads.nil _ _, by simp [Value.ownBlock]⟩⟩
  rw [Below.heap_alloc _ _ _ (by simp)]
  exact heap_alloc_new w _

theorem askC_ok {C : Cl} (h : ClOk C) (t : Int) (s : ByteArray) (hl : C.calls.length < 1000) : ClOk (askC C t s).1 := by
  unfold askC
  split
  · exact h
  · split
    · exact h
    · split
      · exact h
      · refine ⟨h.id1, h.retry1, h.retry2, h.tries1, h.tries2, fun x hx => ?_, by simp; omega⟩
        rcases List.mem_append.1 hx with hx | hx
        · exact h.time x hx
        · simp only [List.mem_singleton] at hx
          subst hx
          dsimp only
          omega
theorem askC_len (C : Cl) (t : Int) (s : ByteArray) : (askC C t s).1.calls.length ≤ C.calls.length + 1 := by
  unfold askC
  split <;> (try split) <;> (try split) <;> simp
theorem pollC_ok {C : Cl} (h : ClOk C) (t : Int) : ClOk (pollC C t).1 := by
  refine ⟨h.id1, h.retry1, h.retry2, h.tries1, h.tries2, fun x hx => ?_, by simpa [pollC] using h.few⟩
  obtain ⟨y, hy, rfl⟩ := List.mem_map.1 hx
  have := h.time y hy
  unfold pollOne
  split <;> exact this
theorem failC_ok {C : Cl} (h : ClOk C) (t : Int) : ClOk (failC C t).1 := by
  refine ⟨h.id1, h.retry1, h.retry2, h.tries1, h.tries2, fun x hx => ?_, by simpa [failC] using h.few⟩
  obtain ⟨y, hy, rfl⟩ := List.mem_map.1 hx
  have := h.time y hy
  unfold failOne
  split <;> exact this
theorem replyC_ok {C : Cl} (h : ClOk C) (r : Rq) : ClOk (replyC C r).1 := by
  unfold replyC
  split
  · split
    · exact h
    · split
      · refine ⟨h.id1, h.retry1, h.retry2, h.tries1, h.tries2, fun x hx => ?_, by simpa using h.few⟩
        rcases List.mem_or_eq_of_mem_set hx with hx | rfl
        · exact h.time x hx
        · exact h.time (C.calls[(r.number - 1).toNat]'(by omega)) (List.getElem_mem _)
      · exact h
  · exact h
theorem pollC_len (C : Cl) (t : Int) : (pollC C t).1.calls.length = C.calls.length := by simp [pollC]
theorem failC_len (C : Cl) (t : Int) : (failC C t).1.calls.length = C.calls.length := by simp [failC]
theorem replyC_len (C : Cl) (r : Rq) : (replyC C r).1.calls.length = C.calls.length := by
  unfold replyC
  split <;> (try split) <;> (try split) <;> simp
theorem sv_ok (keep : Int) (h1 : 1 ≤ keep) (h2 : keep ≤ 256) : SvOk ⟨keep, 0, fun _ => []⟩ := ⟨h1, h2, fun _ => asc_nil, fun _ => by simp; omega⟩

end Go.Proofs.Ytaglidlibocgpaa
