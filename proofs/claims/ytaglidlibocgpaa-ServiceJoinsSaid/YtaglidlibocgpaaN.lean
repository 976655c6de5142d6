/-
  Handle over a server that lies in memory: the contract of the Go method in the words of the plain function.
-/
import Derived.Test.YtaglidlibocgpaaL
namespace Go.Proofs.Ytaglidlibocgpaa
open Go.RowKit

/-- The server S lies at block sb; G: all the blocks that it uses. -/
structure SvAt (w : World) (G : Nat → Prop) (sb : Nat) (S : Sv) : Prop where
  lt : ∀ k, G k → k < w.heap.size
  here : G sb
  parts : ∃ mb fm, w.heap[sb]? = some (.cells #[.int .i64 S.keep, .int .i64 S.done, .map (some mb)] 71 (0, 0)) ∧ MapIs w mb fm ∧ G mb ∧
    ∀ c, ∃ a cap, (fm c).getD (.slice none 0 0) = .slice a (S.kept c).length cap ∧ Reads w (.slice a (S.kept c).length cap) (S.kept c).length 3 (rqs (S.kept c)) ∧ ∀ b, (Value.slice a (S.kept c).length cap).ownBlock = some b → G b

theorem SvAt.upd {F G : Nat → Prop} {w w' : World} {sb : Nat} {S : Sv} (h : SvAt w G sb S) (hu : Upd F w w') (hd : ∀ k, G k → ¬ F k) : SvAt w' G sb S := by
  obtain ⟨mb, fm, h1, h2, h3, h4⟩ := h.parts
  refine ⟨fun k hk => Nat.lt_of_lt_of_le (h.lt k hk) hu.size, h.here, mb, fm, (hu.block sb (h.lt sb h.here) (hd sb h.here)).trans h1, h2.upd hu (hd mb h3), h3, fun c => ?_⟩
  obtain ⟨a, cap, e1, e2, e3⟩ := h4 c
  exact ⟨a, cap, e1, e2.upd hu (fun b hb => hd b (e3 b hb)), e3⟩
theorem SvAt.below {G : Nat → Prop} {w w' : World} {sb : Nat} {S : Sv} (h : SvAt w G sb S) (hu : Below w.heap.size w w') : SvAt w' G sb S :=
  h.upd (Upd.of_new (F := fun _ => False) hu) (fun _ _ h => h)

/-- What Handle's call ends in. -/
def HandleEnds (S : Sv) (G : Nat → Prop) (sb : Nat) (r : Rq) (work : Option (ByteArray → ByteArray)) (w : World) (e : Ending) (w' : World) : Prop :=
  e = .returned (.tuple #[(handleS S r work).2.1.value, .bool (handleS S r work).2.2.1, .int .i64 (handleS S r work).2.2.2]) ∧
  ∃ G', SvAt w' G' sb (handleS S r work).1 ∧ Upd G w w' ∧ ∀ k, G' k → G k ∨ w.heap.size ≤ k

/-- Kept replies lie apart from the server's own cells and its map. -/
theorem reads_apart2 {w w' : World} {sb mb : Nat} {x y : Value} {l : List Rq} {a : Option Addr} {cap t : Nat} {fm : Int → Option Value} (h : Reads w (.slice a l.length cap) l.length 3 (rqs l)) (hsb : w.heap[sb]? = some (.cells #[x, y, .map (some mb)] t (0, 0)))
    (hm : MapIs w mb fm) (hw : ∀ k, k ≠ sb → k ≠ mb → k < w.heap.size → w'.heap[k]? = w.heap[k]?) : Reads w' (.slice a l.length cap) l.length 3 (rqs l) := by
  cases l with
  | nil =>
    obtain ⟨hl, a', cap', e, hc, hm, h0, hx⟩ := h
    exact ⟨hl, a', cap', e, hc, hm, h0, fun g hg => ⟨(hx g hg).1, fun j u hj => by simp [rqs] at hj⟩⟩
  | cons r l =>
    obtain ⟨b', o, rfl⟩ := h.addr (by simp)
    refine h.same fun b hb hlt => ?_
    simp only [Value.ownBlock, Option.some.injEq] at hb
    subst hb
    have h2 := h.cell (j := 2) (u := .string r.text) rfl
    refine hw b' (fun e => ?_) (fun e => ?_) hlt
    · subst e
      rw [cell_of_row w b' _ _ _ _ hsb] at h2
      cases o with
      | zero => simp at h2
      | succ o => rw [Array.getElem?_eq_none (by simp)] at h2; cases h2
    · subst e
      obtain ⟨es, clock, e1, _⟩ := hm
      unfold World.cell? at h2
      simp [e1] at h2

theorem zeroSlice (w : World) : (zeroValue 47).run Try.prog w = .ok (.slice none 0 0) w := by kernel_rfl

theorem handle_any (S : Sv) (G : Nat → Prop) (sb : Nat) (r : Rq) (wv : Value) (work : Option (ByteArray → ByteArray)) (w : World) (h : SvAt w G sb S) (ok : SvOk S) (hd0 : 0 ≤ S.done) (hd1 : S.done ≤ 1000000)
    (hn : r.number ≤ 9223372036854775807) (hs : r.text.size ≤ 4100) (hw : (wv = .nilFunc ∧ work = none) ∨ (wv = .func (.func 13) #[] #[] ∧ work = some answerS)) :
    Calls Try.prog 12 #[.pointer (some ⟨sb, 0, none⟩), .agg #[.int .i64 r.client, .int .i64 r.number, .string r.text], wv] w (HandleEnds S G sb r work w) := by
  obtain ⟨mb, fm, hrow, hmap, hGm, hparts⟩ := h.parts
  obtain ⟨a, cap, ev, hreads, hGa⟩ := hparts r.client
  have hc2 : w.cell? ⟨sb, 2, none⟩ = some (.map (some mb)) := by rw [cell_of_row w sb 2 _ _ _ hrow]; rfl
  have still : ∀ {x : Rq} {b : Bool} {er : Int}, handleS S r work = (S, x, b, er) → ∀ {e : Ending} {w' : World}, e = .returned (.tuple #[x.value, .bool b, .int .i64 er]) ∧ Below w.heap.size w w' → HandleEnds S G sb r work w e w' := by
    intro x b er hh e w' ⟨he, hb⟩
    unfold HandleEnds
    rw [hh]
    exact ⟨he, G, h.below hb, Upd.of_new hb, fun k hk => .inl hk⟩
  by_cases h1 : r.client < 1 ∨ r.number < 1
  · exact (handle_range sb mb r.client r.number r.text wv w hc2 h1).mono fun e w' he => still (x := zeroR) (b := false) (er := 4) (by unfold handleS; rw [if_pos h1]) he
  · have h1c : 1 ≤ r.client := by omega
    have h1n : 1 ≤ r.number := by omega
    by_cases h2 : 4000 < r.text.size
    · exact (handle_long sb mb r.client r.number r.text wv w hc2 h1c h1n h2 hs).mono fun e w' he => still (x := zeroR) (b := false) (er := 3) (by unfold handleS; rw [if_neg h1, if_pos h2]) he
    · have hK : Kept w sb mb r.client S.keep S.done (S.kept r.client) a cap := by
        refine ⟨hrow, hmap.lt, fun W hW => ?_, hreads, ok.asc _, ?_⟩
        · have hm : MapIs W mb fm := by
            obtain ⟨es, clock, e1, e2, e3⟩ := hmap
            exact ⟨es, clock, hW.trans e1, e2, e3⟩
          rw [run_lookup_is hm Try.underlying69 Try.underlying3 (zeroSlice W), ev]
        · have := ok.len r.client
          have := ok.keep2
          omega
      have hp := posOf_spec (ok.asc r.client) r.number
      by_cases h3 : foundAt (S.kept r.client) r.number (posOf (S.kept r.client) r.number) = true
      · have hlt : posOf (S.kept r.client) r.number < (S.kept r.client).length := by
          rcases Nat.lt_or_ge (posOf (S.kept r.client) r.number) (S.kept r.client).length with h | h
          · exact h
          · unfold foundAt at h3
            rw [List.getElem?_eq_none h] at h3
            cases h3
        have hnum : ((S.kept r.client)[posOf (S.kept r.client) r.number]).number = r.number := by
          unfold foundAt at h3
          rw [List.getElem?_eq_getElem hlt] at h3
          simpa using h3
        refine (handle_found sb mb r.client r.number S.keep S.done r.text wv _ a cap _ w hK h1c h1n hn (by omega) hp hlt hnum).mono fun e w' he => still (by unfold handleS; rw [if_neg h1, if_neg h2, if_pos h3, List.getD_eq_getElem?_getD, List.getElem?_eq_getElem hlt]; rfl) he
      · have h3' : foundAt (S.kept r.client) r.number (posOf (S.kept r.client) r.number) = false := by simpa using h3
        by_cases h4 : posOf (S.kept r.client) r.number = 0 ∧ S.keep ≤ (S.kept r.client).length
        · refine (handle_old sb mb r.client r.number S.keep S.done r.text wv _ a cap w hK h1c h1n hn (by omega) (h4.1 ▸ hp) ?_ h4.2).mono fun e w' he => still (x := zeroR) (b := false) (er := 10) (by unfold handleS; rw [if_neg h1, if_neg h2, if_neg h3, if_pos h4]) he
          have e0 := h4.1
          rw [e0] at h3'
          exact h3'
        · have hidle : posOf (S.kept r.client) r.number = 0 → (S.kept r.client).length < S.keep := fun h => by
            rcases Int.lt_or_le ((S.kept r.client).length : Int) S.keep with h' | h'
            · exact h'
            · exact absurd ⟨h, h'⟩ h4
          rcases hw with ⟨rfl, rfl⟩ | ⟨rfl, rfl⟩
          · exact (handle_idle sb mb r.client r.number S.keep S.done r.text _ a cap _ w hK h1c h1n hn (by omega) hp h3' hidle).mono fun e w' he => still (x := zeroR) (b := false) (er := 6) (by unfold handleS; rw [if_neg h1, if_neg h2, if_neg h3, if_neg h4]) he
          · refine (handle_done sb mb r.client r.number S.keep S.done r.text _ a cap _ w hK h1c h1n hn (by omega) hp h3' hidle hd0 hd1 ok.keep1 ok.keep2 fm hmap _ rfl).mono fun e w' he => ?_
            obtain ⟨rfl, g, cg, r1, r2, r3, r4, r5, r6⟩ := he
            have hh : handleS S r (some answerS) = (servedS S r (clipS (answerS r.text)), ⟨r.client, r.number, clipS (answerS r.text)⟩, true, 0) := by unfold handleS; rw [if_neg h1, if_neg h2, if_neg h3, if_neg h4]
            unfold HandleEnds
            rw [hh]
            refine ⟨rfl, fun k => G k ∨ k = g, ⟨fun k hk => ?_, .inl h.here, mb, _, r1, r2, .inl hGm, fun c => ?_⟩, r6.wider fun k hk => ?_, fun k hk => ?_⟩
            · rcases hk with hk | rfl
              · exact Nat.lt_of_lt_of_le (h.lt k hk) r6.size
              · exact r5
            · by_cases hc : c = r.client
              · subst hc
                have hlen : (((S.kept r.client).take (posOf (S.kept r.client) r.number) ++ (⟨r.client, r.number, clipS (answerS r.text)⟩ : Rq) :: (S.kept r.client).drop (posOf (S.kept r.client) r.number)).drop ((S.kept r.client).length + 1 - S.keep.toNat)).length = (S.kept r.client).length + 1 - ((S.kept r.client).length + 1 - S.keep.toNat) := by
                  have := hp.le
                  rw [List.length_drop]
                  simp
                  omega
                refine ⟨some ⟨g, ((S.kept r.client).length + 1 - S.keep.toNat) * 3, none⟩, cg, ?_, ?_, ?_⟩
                · simp only [if_true, Option.getD_some, servedS]
                  rw [hlen]
                · simp only [if_true, servedS]
                  rw [hlen]
                  exact r3
                · intro b hb
                  simp only [Value.ownBlock, Option.some.injEq] at hb
                  exact .inr hb.symm
              · obtain ⟨a', cap', q1, q2, q3⟩ := hparts c
                refine ⟨a', cap', ?_, ?_, ?_⟩
                · simp only [if_neg hc, servedS]; exact q1
                · have hkc : (servedS S r (clipS (answerS r.text))).kept c = S.kept c := by unfold servedS; simp only [if_neg hc]
                  rw [hkc]
                  exact reads_apart2 q2 hrow hmap (fun k k1 k2 hlt => r6.block k hlt (fun hk => hk.elim k1 k2))
                · simp only [if_neg hc, servedS]
                  exact fun b hb => .inl (q3 b hb)
            · rcases hk with rfl | rfl
              · exact .inl h.here
              · exact .inl hGm
            · rcases hk with hk | rfl
              · exact .inl hk
              · exact .inr r4

end Go.Proofs.Ytaglidlibocgpaa
