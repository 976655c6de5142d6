/-
  A client and a server side by side in memory, and what each method does to the two.
-/
import Derived.Test.YtaglidlibocgpaaV
namespace Go.Proofs.Ytaglidlibocgpaa
open Go.RowKit

/-- A client and a server, apart, both newer than w0. -/
structure Duo (w0 w : World) (F G : Nat → Prop) (cb sb : Nat) (C : Cl) (S : Sv) : Prop where
  old : Below w0.heap.size w0 w
  cl : ClAt w F cb C
  sv : SvAt w G sb S
  apart : ∀ k, F k → ¬ G k
  newF : ∀ k, F k → w0.heap.size ≤ k
  newG : ∀ k, G k → w0.heap.size ≤ k

theorem Upd.onto {F : Nat → Prop} {w0 w w' : World} (h : Below w0.heap.size w0 w) (hu : Upd F w w') (hF : ∀ k, F k → w0.heap.size ≤ k) : Below w0.heap.size w0 w' :=
  h.trans (hu.below h.size hF)

theorem Duo.below {w0 w w' : World} {F G : Nat → Prop} {cb sb : Nat} {C : Cl} {S : Sv} (D : Duo w0 w F G cb sb C S) (hb : Below w.heap.size w w') : Duo w0 w' F G cb sb C S :=
  ⟨Upd.onto D.old (Upd.of_new (F := fun _ => False) hb) (fun _ h => h.elim), D.cl.below hb, D.sv.below hb, D.apart, D.newF, D.newG⟩
theorem Duo.turn {w0 w w' : World} {F G : Nat → Prop} {cb sb : Nat} {C C' : Cl} {S : Sv} (D : Duo w0 w F G cb sb C S) (h : ClIn F cb C' w w') : Duo w0 w' F G cb sb C' S :=
  ⟨Upd.onto D.old h.2 D.newF, h.1, D.sv.upd h.2 (fun k hg hf => D.apart k hf hg), D.apart, D.newF, D.newG⟩
theorem Duo.ask {w0 w w' : World} {F G : Nat → Prop} {cb sb : Nat} {C C' : Cl} {S : Sv} (D : Duo w0 w F G cb sb C S) (h : ClTo F cb C' w w') : ∃ F', Duo w0 w' F' G cb sb C' S := by
  obtain ⟨F', h1, h2, h3⟩ := h
  refine ⟨F', Upd.onto D.old h2 D.newF, h1, D.sv.upd h2 (fun k hg hf => D.apart k hf hg), fun k hf hg => ?_, fun k hf => ?_, D.newG⟩
  · rcases h3 k hf with h | h
    · exact D.apart k h hg
    · have := D.sv.lt k hg
      omega
  · rcases h3 k hf with h | h
    · exact D.newF k h
    · have := D.old.size
      omega
theorem Duo.handle {w0 w w' : World} {F G : Nat → Prop} {cb sb : Nat} {C : Cl} {S S' : Sv} (D : Duo w0 w F G cb sb C S) (h : ∃ G', SvAt w' G' sb S' ∧ Upd G w w' ∧ ∀ k, G' k → G k ∨ w.heap.size ≤ k) :
    ∃ G', Duo w0 w' F G' cb sb C S' ∧ ∀ k, G' k → G k ∨ w.heap.size ≤ k := by
  obtain ⟨G', h1, h2, h3⟩ := h
  refine ⟨G', ⟨Upd.onto D.old h2 D.newG, D.cl.upd h2 D.apart, h1, fun k hf hg => ?_, D.newF, fun k hg => ?_⟩, h3⟩
  · rcases h3 k hg with h | h
    · exact D.apart k hf h
    · have := D.cl.lt k hf
      omega
  · rcases h3 k hg with h | h
    · exact D.newG k h
    · have := D.old.size
      omega

theorem duo_fresh (w w2 : World) (id retry tries keep : Int) (h : ((w.alloc (.cells #[.int .i64 id, .int .i64 retry, .int .i64 tries, .slice none 0 0] 84)).alloc (.map #[] 0)).alloc (.cells #[.int .i64 keep, .int .i64 0, .map (some (w.heap.size + 1))] 71) = w2) :
    Duo w w2 (fun k => k = w.heap.size) (fun k => k = w.heap.size + 1 ∨ k = w.heap.size + 2) w.heap.size (w.heap.size + 2) ⟨id, retry, tries, []⟩ ⟨keep, 0, fun _ => []⟩ := by
  subst h
  have h1 := cl_fresh w id retry tries
  have h2 := sv_fresh (w.alloc (.cells #[.int .i64 id, .int .i64 retry, .int .i64 tries, .slice none 0 0] 84)) keep
  simp only [World.size_alloc] at h2
  refine ⟨((((Below.refl w.heap.size w).alloc (Nat.le_refl _) _).alloc (by simp) _).alloc (by simp; omega) _), ?_, h2, fun k hf hg => by omega, fun k hf => by omega, fun k hg => by omega⟩
  exact h1.below (((Below.refl _ _).alloc (Nat.le_refl _) _).alloc (by simp) _)

/-- A row of results that lies apart from the client and the server. -/
structure Aside (w : World) (F G : Nat → Prop) (v : Value) (n size : Nat) (xs : List Value) : Prop where
  reads : Reads w v n size xs
  lt : ∀ b, v.ownBlock = some b → b < w.heap.size
  offF : ∀ b, v.ownBlock = some b → ¬ F b
  offG : ∀ b, v.ownBlock = some b → ¬ G b

theorem Aside.of_owns {w0 w w' : World} {F G : Nat → Prop} {cb sb : Nat} {C : Cl} {S : Sv} {e size n : Nat} {v : Value} {xs : List Value} (D : Duo w0 w F G cb sb C S) (h : w'.ownsRow w.heap.size e size v n xs) : Aside w' F G v n size xs :=
  ⟨Reads.of_owns h, fun b hb => (h.lt b hb).2, fun b hb hf => by have := (h.lt b hb).1; have := D.cl.lt b hf; omega, fun b hb hf => by have := (h.lt b hb).1; have := D.sv.lt b hf; omega⟩
theorem Aside.turn {w w' : World} {F G : Nat → Prop} {cb : Nat} {C' : Cl} {v : Value} {n size : Nat} {xs : List Value} (A : Aside w F G v n size xs) (h : ClIn F cb C' w w') : Aside w' F G v n size xs :=
  ⟨A.reads.upd h.2 A.offF, fun b hb => Nat.lt_of_lt_of_le (A.lt b hb) h.2.size, A.offF, A.offG⟩
theorem Aside.below {w w' : World} {F G : Nat → Prop} {v : Value} {n size : Nat} {xs : List Value} (A : Aside w F G v n size xs) (h : Below w.heap.size w w') : Aside w' F G v n size xs :=
  ⟨A.reads.below h, fun b hb => Nat.lt_of_lt_of_le (A.lt b hb) h.size, A.offF, A.offG⟩
theorem Aside.handle {w w' : World} {F G G' : Nat → Prop} {v : Value} {n size : Nat} {xs : List Value} (A : Aside w F G v n size xs) (h : Upd G w w') (hG : ∀ k, G' k → G k ∨ w.heap.size ≤ k) : Aside w' F G' v n size xs :=
  ⟨A.reads.upd h A.offG, fun b hb => Nat.lt_of_lt_of_le (A.lt b hb) h.size, A.offF, fun b hb hg => by
    rcases hG b hg with h' | h'
    · exact A.offG b hb h'
    · have := A.lt b hb
      omega⟩

/-- The work is the function answer. -/
theorem handle_duo {w0 w : World} {F G : Nat → Prop} {cb sb : Nat} {C : Cl} {S : Sv} (D : Duo w0 w F G cb sb C S) (ok : SvOk S) (hd0 : 0 ≤ S.done) (hd1 : S.done ≤ 1000000) (r : Rq) (hn : r.number ≤ 9223372036854775807) (hs : r.text.size ≤ 4100) :
    Calls Try.prog 12 #[.pointer (some ⟨sb, 0, none⟩), .agg #[.int .i64 r.client, .int .i64 r.number, .string r.text], .func (.func 13) #[] #[]] w fun e w' =>
      e = .returned (.tuple #[(handleS S r (some answerS)).2.1.value, .bool (handleS S r (some answerS)).2.2.1, .int .i64 (handleS S r (some answerS)).2.2.2]) ∧
      ∃ G', Duo w0 w' F G' cb sb C (handleS S r (some answerS)).1 ∧ Upd G w w' ∧ ∀ k, G' k → G k ∨ w.heap.size ≤ k := by
  refine (handle_any S G sb r _ (some answerS) w D.sv ok hd0 hd1 hn hs (.inr ⟨rfl, rfl⟩)).mono fun e w' ⟨he, h⟩ => ⟨he, ?_⟩
  obtain ⟨G', hD, hG⟩ := D.handle h
  obtain ⟨_, _, hu, _⟩ := h
  exact ⟨G', hD, hu, hG⟩

end Go.Proofs.Ytaglidlibocgpaa
