/-
  The memory of the law ServiceFinal: a client, a row of replies and a row of errors, apart.
-/
import Derived.Test.YtaglidlibocgpaaFa
import Derived.Test.YtaglidlibocgpaaW
import Derived.Test.YtaglidlibocgpaaF
namespace Go.Proofs.Ytaglidlibocgpaa
open Go.RowKit

def strs (l : List ByteArray) : List Value := l.map fun s => .string s
theorem strs_append (a b : List ByteArray) : strs (a ++ b) = strs a ++ strs b := by simp [strs]
theorem strs_one (l : List ByteArray) : ∀ u ∈ strs l, u.oneCell' = true := by
  intro u hu
  simp only [strs, List.mem_map] at hu
  obtain ⟨n, _, rfl⟩ := hu
  rfl
theorem strs_get (l : List ByteArray) (k : Nat) (h : k < l.length) : (strs l)[k]? = some (.string l[k]) := by simp [strs, h]
theorem strs_set (l : List ByteArray) (k : Nat) (s : ByteArray) : (strs l).set k (.string s) = strs (l.set k s) := by simp [strs, List.map_set]
theorem nums_set (l : List Int) (k : Nat) (n : Int) : (nums l).set k (.int .i64 n) = nums (l.set k n) := by simp [nums, List.map_set]

/-- A client and two rows, apart, newer than w0. -/
structure Fin3 (w0 w : World) (F : Nat → Prop) (cb : Nat) (C : Cl) (vr vs : Value) (lr : List ByteArray) (le : List Int) : Prop where
  old : Below w0.heap.size w0 w
  cl : ClAt w F cb C
  newF : ∀ k, F k → w0.heap.size ≤ k
  rr : w.ownsRow w0.heap.size 9 1 vr lr.length (strs lr)
  rs : w.ownsRow w0.heap.size 26 1 vs le.length (nums le)
  apR : ∀ b, vr.ownBlock = some b → ¬ F b
  apS : ∀ b, vs.ownBlock = some b → ¬ F b
  apRS : ∀ b, vr.ownBlock = some b → vs.ownBlock = some b → False

theorem owns_upd {F : Nat → Prop} {w w' : World} {base e size n : Nat} {v : Value} {xs : List Value} (h : w.ownsRow base e size v n xs) (hu : Upd F w w') (hd : ∀ b, v.ownBlock = some b → ¬ F b) : w'.ownsRow base e size v n xs := by
  obtain ⟨h1, h2⟩ := h
  refine ⟨h1, ?_⟩
  rcases h2 with h2 | ⟨g, cap, cur, rfl, hg, hh, r⟩
  · exact .inl h2
  · exact .inr ⟨g, cap, cur, rfl, hg, (hu.block g (Array.getElem?_eq_some_iff.1 hh).1 (hd g rfl)).trans hh, r⟩

variable {w0 w w' : World} {F : Nat → Prop} {cb : Nat} {C C' : Cl} {vr vs v' : Value} {lr : List ByteArray} {le : List Int}

theorem Fin3.below (D : Fin3 w0 w F cb C vr vs lr le) (hb : Below w.heap.size w w') : Fin3 w0 w' F cb C vr vs lr le :=
  ⟨Upd.onto D.old (Upd.of_new (F := fun _ => False) hb) (fun _ h => h.elim), D.cl.below hb, D.newF, owns_below D.rr hb, owns_below D.rs hb, D.apR, D.apS, D.apRS⟩
theorem Fin3.turn (D : Fin3 w0 w F cb C vr vs lr le) (h : ClIn F cb C' w w') : Fin3 w0 w' F cb C' vr vs lr le :=
  ⟨Upd.onto D.old h.2 D.newF, h.1, D.newF, owns_upd D.rr h.2 D.apR, owns_upd D.rs h.2 D.apS, D.apR, D.apS, D.apRS⟩
theorem Fin3.ask (D : Fin3 w0 w F cb C vr vs lr le) (h : ClTo F cb C' w w') : ∃ F', Fin3 w0 w' F' cb C' vr vs lr le := by
  obtain ⟨F', h1, h2, h3⟩ := h
  refine ⟨F', Upd.onto D.old h2 D.newF, h1, fun k hf => ?_, owns_upd D.rr h2 D.apR, owns_upd D.rs h2 D.apS, fun b hb hf => ?_, fun b hb hf => ?_, D.apRS⟩
  · rcases h3 k hf with h | h
    · exact D.newF k h
    · have := D.old.size
      omega
  · rcases h3 b hf with h | h
    · exact D.apR b hb h
    · have := (D.rr.lt b hb).2
      omega
  · rcases h3 b hf with h | h
    · exact D.apS b hb h
    · have := (D.rs.lt b hb).2
      omega
theorem Fin3.appR {s : ByteArray} (D : Fin3 w0 w F cb C vr vs lr le) (hg : w.grownBy w' vr.ownBlock) (hown : w'.ownsRow w0.heap.size 9 1 v' (lr.length + 1) (strs lr ++ strs [s])) (hl : v'.ownBlock = vr.ownBlock ∨ v'.ownBlock = some w.heap.size) :
    Fin3 w0 w' F cb C v' vs (lr ++ [s]) le := by
  have hu : Upd (fun k => vr.ownBlock = some k) w w' := (Upd.refl _ _).grown hg (fun k hk => .inl hk)
  have hn : ∀ b, v'.ownBlock = some b → vr.ownBlock = some b ∨ b = w.heap.size := fun b hb => by
    rcases hl with h | h
    · exact .inl (h ▸ hb)
    · rw [hb] at h
      exact .inr (Option.some.inj h)
  refine ⟨Upd.onto D.old hu (fun k hk => (D.rr.lt k hk).1), D.cl.upd hu (fun k hf hk => D.apR k hk hf), D.newF, ?_, owns_upd D.rs hu (fun b hb hk => D.apRS b hk hb), fun b hb hf => ?_, D.apS, fun b hb hs => ?_⟩
  · rw [← strs_append] at hown
    simpa using hown
  · rcases hn b hb with h | h
    · exact D.apR b h hf
    · have := D.cl.lt b hf
      omega
  · rcases hn b hb with h | h
    · exact D.apRS b h hs
    · have := (D.rs.lt b hs).2
      omega
theorem Fin3.appS {n : Int} (D : Fin3 w0 w F cb C vr vs lr le) (hg : w.grownBy w' vs.ownBlock) (hown : w'.ownsRow w0.heap.size 26 1 v' (le.length + 1) (nums le ++ nums [n])) (hl : v'.ownBlock = vs.ownBlock ∨ v'.ownBlock = some w.heap.size) :
    Fin3 w0 w' F cb C vr v' lr (le ++ [n]) := by
  have hu : Upd (fun k => vs.ownBlock = some k) w w' := (Upd.refl _ _).grown hg (fun k hk => .inl hk)
  have hn : ∀ b, v'.ownBlock = some b → vs.ownBlock = some b ∨ b = w.heap.size := fun b hb => by
    rcases hl with h | h
    · exact .inl (h ▸ hb)
    · rw [hb] at h
      exact .inr (Option.some.inj h)
  refine ⟨Upd.onto D.old hu (fun k hk => (D.rs.lt k hk).1), D.cl.upd hu (fun k hf hk => D.apS k hk hf), D.newF, owns_upd D.rr hu (fun b hb hk => D.apRS b hb hk), ?_, D.apR, fun b hb hf => ?_, fun b hr hb => ?_⟩
  · rw [← nums_append] at hown
    simpa using hown
  · rcases hn b hb with h | h
    · exact D.apS b h hf
    · have := D.cl.lt b hf
      omega
  · rcases hn b hb with h | h
    · exact D.apRS b hr h
    · have := (D.rr.lt b hr).2
      omega
theorem Fin3.setR {g n cap k : Nat} {s : ByteArray} (D : Fin3 w0 w F cb C (.slice (some ⟨g, 0, none⟩) n cap) vs lr le) : Fin3 w0 (w.setCell ⟨g, k, none⟩ (.string s)) F cb C (.slice (some ⟨g, 0, none⟩) n cap) vs (lr.set k s) le := by
  have hu : Upd (fun b => (Value.slice (some ⟨g, 0, none⟩) n cap).ownBlock = some b) w (w.setCell ⟨g, k, none⟩ (.string s)) := (Upd.refl (fun b => (Value.slice (some ⟨g, 0, none⟩) n cap).ownBlock = some b) w).setCell (p := ⟨g, k, none⟩) (.inl rfl) _
  have hn : n = lr.length := by
    rcases D.rr.2 with ⟨h, _⟩ | ⟨g', cap', cur, h, _⟩
    · cases h
    · cases h
      rfl
  subst hn
  refine ⟨Upd.onto D.old hu (fun b hb => (D.rr.lt b hb).1), D.cl.upd hu (fun b hf hb => D.apR b hb hf), D.newF, ?_, owns_upd D.rs hu (fun b hb hk => D.apRS b hk hb), D.apR, D.apS, D.apRS⟩
  have := (D.rr.stored k (.string s)).1
  rw [strs_set] at this
  simpa using this
theorem Fin3.setS {g n cap k : Nat} {m : Int} (D : Fin3 w0 w F cb C vr (.slice (some ⟨g, 0, none⟩) n cap) lr le) : Fin3 w0 (w.setCell ⟨g, k, none⟩ (.int .i64 m)) F cb C vr (.slice (some ⟨g, 0, none⟩) n cap) lr (le.set k m) := by
  have hu : Upd (fun b => (Value.slice (some ⟨g, 0, none⟩) n cap).ownBlock = some b) w (w.setCell ⟨g, k, none⟩ (.int .i64 m)) := (Upd.refl (fun b => (Value.slice (some ⟨g, 0, none⟩) n cap).ownBlock = some b) w).setCell (p := ⟨g, k, none⟩) (.inl rfl) _
  have hn : n = le.length := by
    rcases D.rs.2 with ⟨h, _⟩ | ⟨g', cap', cur, h, _⟩
    · cases h
    · cases h
      rfl
  subst hn
  refine ⟨Upd.onto D.old hu (fun b hb => (D.rs.lt b hb).1), D.cl.upd hu (fun b hf hb => D.apS b hb hf), D.newF, owns_upd D.rr hu (fun b hb hk => D.apRS b hb hk), ?_, D.apR, D.apS, D.apRS⟩
  have := (D.rs.stored k (.int .i64 m)).1
  rw [nums_set] at this
  simpa using this

end Go.Proofs.Ytaglidlibocgpaa
