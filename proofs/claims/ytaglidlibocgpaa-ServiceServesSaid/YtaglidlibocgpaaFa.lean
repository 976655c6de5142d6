/-
  What a call has come to, and that no method of a client turns it once it is decided.
-/
import Derived.Test.YtaglidlibocgpaaV
namespace Go.Proofs.Ytaglidlibocgpaa
open Go.RowKit

/-- What a call has come to: the reply and the error. -/
def resOf (x : Asked) : ByteArray × Int := if x.state = 0 then (⟨#[]⟩, 10) else if x.state = 2 then (⟨#[]⟩, 12) else (x.reply, 0)
theorem resOf_open {x : Asked} (h : (resOf x).2 ≠ 10) : x.state ≠ 0 := by
  intro h0
  unfold resOf at h
  rw [if_pos h0] at h
  exact h rfl
theorem resOf_err (x : Asked) : (resOf x).2 = 10 ∨ (resOf x).2 = 12 ∨ (resOf x).2 = 0 := by
  unfold resOf
  split
  · exact .inl rfl
  · split
    · exact .inr (.inl rfl)
    · exact .inr (.inr rfl)
theorem resultC_at (C : Cl) (k : Nat) (h : k < C.calls.length) : resultC C ((k : Int) + 1) = resOf C.calls[k] := by
  have hki : ((k : Int) + 1 - 1).toNat = k := by omega
  unfold resultC resOf
  rw [dif_pos ⟨by omega, by omega⟩]
  simp only [hki]

/-- C' has all the calls of C, and what is decided stays. -/
def Mono (C C' : Cl) : Prop := C.calls.length ≤ C'.calls.length ∧ ∀ k (h : k < C.calls.length) (h' : k < C'.calls.length), (resOf C.calls[k]).2 ≠ 10 → resOf C'.calls[k] = resOf C.calls[k]

theorem resOf_poll (retry tries t : Int) (x : Asked) : resOf (pollOne retry tries t x) = resOf x := by
  unfold pollOne
  split <;> rfl
theorem resOf_fail (retry tries t : Int) (x : Asked) (h : (resOf x).2 ≠ 10) : resOf (failOne retry tries t x) = resOf x := by
  have h0 := resOf_open h
  unfold failOne
  rw [if_neg]
  unfold isLost
  simp [h0]
theorem mono_poll (C : Cl) (t : Int) : Mono C (pollC C t).1 := by
  refine ⟨by simp [pollC], fun k h h' _ => ?_⟩
  show resOf ((C.calls.map (pollOne C.retry C.tries t))[k]'(by simpa using h)) = _
  rw [List.getElem_map, resOf_poll]
theorem mono_fail (C : Cl) (t : Int) : Mono C (failC C t).1 := by
  refine ⟨by simp [failC], fun k h h' hx => ?_⟩
  show resOf ((C.calls.map (failOne C.retry C.tries t))[k]'(by simpa using h)) = _
  rw [List.getElem_map, resOf_fail _ _ _ _ hx]
theorem Mono.refl (C : Cl) : Mono C C := ⟨Nat.le_refl _, fun _ _ _ _ => rfl⟩
theorem mono_ask (C : Cl) (t : Int) (s : ByteArray) : Mono C (askC C t s).1 := by
  unfold askC
  split
  · exact Mono.refl C
  · split
    · exact Mono.refl C
    · split
      · exact Mono.refl C
      · refine ⟨by simp, fun k h h2 _ => ?_⟩
        show resOf ((C.calls ++ [_])[k]'h2) = _
        rw [List.getElem_append_left h]
theorem mono_reply (C : Cl) (r : Rq) : Mono C (replyC C r).1 := by
  unfold replyC
  split
  · split
    · exact Mono.refl C
    · split
      · rename_i hs
        refine ⟨by simp, fun k h h' hx => ?_⟩
        by_cases hk : (r.number - 1).toNat = k
        · subst hk
          exact absurd hs (resOf_open hx)
        · show resOf ((C.calls.set _ _)[k]'(by simpa using h)) = _
          rw [List.getElem_set_ne hk]
      · exact Mono.refl C
  · exact Mono.refl C

/-- What was noted of each call: it is what the call has come to, at the first n calls, and wherever it was decided. -/
def Noted (C : Cl) (lr : List ByteArray) (le : List Int) (n : Nat) : Prop :=
  lr.length = C.calls.length ∧ le.length = C.calls.length ∧ ∀ k (h : k < C.calls.length) (h1 : k < lr.length) (h2 : k < le.length), k < n ∨ le[k] ≠ 10 → resOf C.calls[k] = (lr[k], le[k])

theorem Noted.step {C C' : Cl} {lr : List ByteArray} {le : List Int} (N : Noted C lr le C.calls.length) (m : Mono C C') (hl : C'.calls.length = C.calls.length) : Noted C' lr le 0 := by
  obtain ⟨n1, n2, n3⟩ := N
  refine ⟨n1.trans hl.symm, n2.trans hl.symm, fun k h h1 h2 hk => ?_⟩
  have hkc : k < C.calls.length := by omega
  have e := n3 k hkc h1 h2 (.inl hkc)
  rw [m.2 k hkc h (by rw [e]; rcases hk with hk | hk; exact absurd hk (by omega); exact hk), e]
/-- A new call is noted as open. -/
theorem Noted.ask {C C' : Cl} {lr : List ByteArray} {le : List Int} (N : Noted C lr le C.calls.length) (m : Mono C C') (hl : C'.calls.length = C.calls.length + 1) : Noted C' (lr ++ [⟨#[]⟩]) (le ++ [10]) 0 := by
  obtain ⟨n1, n2, n3⟩ := N
  refine ⟨by simp; omega, by simp; omega, fun k h h1 h2 hk => ?_⟩
  have hk' := hk.resolve_left (by omega)
  rcases Nat.lt_or_ge k C.calls.length with hkc | hkc
  · rw [List.getElem_append_left (by omega)] at hk' ⊢
    rw [List.getElem_append_left (by omega)]
    have e := n3 k hkc (by omega) (by omega) (.inl hkc)
    rw [m.2 k hkc h (by rw [e]; exact hk'), e]
  · rw [List.getElem_append_right (by omega)] at hk'
    simp at hk'
theorem Noted.set {C : Cl} {lr : List ByteArray} {le : List Int} {n : Nat} (N : Noted C lr le n) (hn : n < C.calls.length) : Noted C (lr.set n (resOf C.calls[n]).1) (le.set n (resOf C.calls[n]).2) (n + 1) := by
  obtain ⟨n1, n2, n3⟩ := N
  refine ⟨by simpa using n1, by simpa using n2, fun k h h1 h2 hk => ?_⟩
  by_cases e : n = k
  · subst e
    simp
  · rw [List.getElem_set_ne e] at hk ⊢
    rw [List.getElem_set_ne e]
    exact n3 k h (by simpa using h1) (by simpa using h2) (hk.imp (fun h => by omega) id)

end Go.Proofs.Ytaglidlibocgpaa
