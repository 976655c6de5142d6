/-
  A server as a plain thing (the replies kept for each client, and how often work was done), Handle as a plain function of it, and that the Go method does just that.
-/
import Derived.Test.YtaglidlibocgpaaK
namespace Go.Proofs.Ytaglidlibocgpaa
open Go.RowKit

/-- A server. -/
structure Sv where
  keep : Int
  done : Int
  kept : Int → List Rq

/-- Where a number stands, or would stand. -/
def posOf (l : List Rq) (n : Int) : Nat := (l.takeWhile fun x => decide (x.number < n)).length

theorem posOf_spec {l : List Rq} (h : Asc l) (n : Int) : IsPos l n (posOf l n) := by
  have hpre : ∀ k (hk : k < l.length), k < posOf l n → l[k].number < n := by
    intro k hk hlt
    have h1 : (l.takeWhile fun x => decide (x.number < n))[k]? = l[k]? := by
      obtain ⟨t, ht⟩ := List.takeWhile_prefix (fun x : Rq => decide (x.number < n)) (l := l)
      conv => rhs; rw [← ht]
      rw [List.getElem?_append_left hlt]
    have h2 : l[k] ∈ l.takeWhile fun x => decide (x.number < n) := by
      rw [List.getElem?_eq_getElem hk] at h1
      exact List.mem_of_getElem? h1
    have := List.all_takeWhile (p := fun x : Rq => decide (x.number < n)) (l := l)
    have := List.all_eq_true.1 this _ h2
    simpa using this
  have hle : posOf l n ≤ l.length := by
    obtain ⟨t, ht⟩ := List.takeWhile_prefix (fun x : Rq => decide (x.number < n)) (l := l)
    have := congrArg List.length ht
    rw [List.length_append] at this
    unfold posOf
    omega
  have hat : ∀ (hk : posOf l n < l.length), n ≤ l[posOf l n].number := by
    intro hk
    have hs : l = (l.takeWhile fun x => decide (x.number < n)) ++ (l.dropWhile fun x => decide (x.number < n)) := List.takeWhile_append_dropWhile.symm
    have h1 : l[posOf l n]? = (l.dropWhile fun x => decide (x.number < n))[0]? := by
      have e : ∀ (A B : List Rq), (A ++ B)[A.length]? = B[0]? := fun A B => by rw [List.getElem?_append_right (Nat.le_refl _)]; simp
      have := e (l.takeWhile fun x => decide (x.number < n)) (l.dropWhile fun x => decide (x.number < n))
      rw [← hs] at this
      exact this
    rw [List.getElem?_eq_getElem hk] at h1
    have h2 := List.head?_dropWhile_not (fun x : Rq => decide (x.number < n)) l
    rw [List.head?_eq_getElem?, ← h1] at h2
    simpa using h2
  refine ⟨hle, hpre, fun k hk hge => ?_⟩
  rcases Nat.lt_or_ge (posOf l n) k with h1 | h1
  · have := h.lt (posOf l n) k hk h1
    have := hat (by omega)
    omega
  · have : k = posOf l n := by omega
    subst this
    exact hat hk

def zeroR : Rq := ⟨0, 0, ⟨#[]⟩⟩
theorem zeroR_value : zeroR.value = zeroRq := rfl

/-- The server behind the work. -/
def servedS (S : Sv) (r : Rq) (T : ByteArray) : Sv :=
  { keep := S.keep, done := S.done + 1,
    kept := fun c => if c = r.client then
      ((S.kept r.client).take (posOf (S.kept r.client) r.number) ++ ⟨r.client, r.number, T⟩ :: (S.kept r.client).drop (posOf (S.kept r.client) r.number)).drop ((S.kept r.client).length + 1 - S.keep.toNat)
      else S.kept c }

/-- Handle, as a plain function: the server behind it, the reply, whether work was done, the error. -/
def handleS (S : Sv) (r : Rq) (work : Option (ByteArray → ByteArray)) : Sv × Rq × Bool × Int :=
  if r.client < 1 ∨ r.number < 1 then (S, zeroR, false, 4)
  else if 4000 < r.text.size then (S, zeroR, false, 3)
  else if foundAt (S.kept r.client) r.number (posOf (S.kept r.client) r.number) = true then (S, (S.kept r.client).getD (posOf (S.kept r.client) r.number) zeroR, false, 0)
  else if posOf (S.kept r.client) r.number = 0 ∧ S.keep ≤ (S.kept r.client).length then (S, zeroR, false, 10)
  else match work with
    | none => (S, zeroR, false, 6)
    | some f => (servedS S r (clipS (f r.text)), ⟨r.client, r.number, clipS (f r.text)⟩, true, 0)

/-- A server is sound: its bounds, and its lists ascending and no longer than they may be. -/
structure SvOk (S : Sv) : Prop where
  keep1 : 1 ≤ S.keep
  keep2 : S.keep ≤ 256
  asc : ∀ c, Asc (S.kept c)
  len : ∀ c, (S.kept c).length ≤ S.keep

theorem asc_nil : Asc [] := ⟨fun i j h => by simp at h, fun x h => by simp at h, fun x h => by simp at h⟩

theorem asc_drop {l : List Rq} (h : Asc l) (d : Nat) : Asc (l.drop d) := by
  refine ⟨fun i j hj hij => ?_, fun x hx => h.one x (List.mem_of_mem_drop hx), fun x hx => h.max x (List.mem_of_mem_drop hx)⟩
  rw [List.length_drop] at hj
  rw [List.getElem_drop, List.getElem_drop]
  exact h.lt _ _ _ (by omega)

theorem asc_insert {l : List Rq} (h : Asc l) {i : Nat} {r : Rq} (hp : IsPos l r.number i) (hf : foundAt l r.number i = false) (h1 : 1 ≤ r.number) (h2 : r.number ≤ 9223372036854775807) : Asc (l.take i ++ r :: l.drop i) := by
  have hle := hp.le
  have hgt : ∀ k (hk : k < l.length), i ≤ k → r.number < l[k].number := by
    intro k hk hik
    have h3 := hp.hi k hk hik
    rcases Nat.lt_or_ge i k with h4 | h4
    · have := hp.hi i (by omega) (Nat.le_refl _)
      have := h.lt i k hk h4
      omega
    · have : k = i := by omega
      subst this
      unfold foundAt at hf
      rw [List.getElem?_eq_getElem hk] at hf
      have hne : l[k].number ≠ r.number := by simpa using hf
      omega
  have hget : ∀ k (hk : k < (l.take i ++ r :: l.drop i).length), (l.take i ++ r :: l.drop i)[k] = if hki : k < i then l[k]'(by omega) else if hke : k = i then r else l[k - 1]'(by simp at hk; omega) := by
    intro k hk
    split
    · rename_i hki
      rw [List.getElem_append_left (by simp; omega), List.getElem_take]
    · split
      · rename_i hki hke
        subst hke
        rw [List.getElem_append_right (by simp; omega)]
        simp [Nat.min_eq_left hle]
      · rename_i hki hke
        rw [List.getElem_append_right (by simp; omega)]
        have e : k - (l.take i).length = (k - 1 - i) + 1 := by simp; omega
        simp only [e, List.getElem_cons_succ, List.getElem_drop]
        congr 1
        omega
  refine ⟨fun a b hb hab => ?_, fun x hx => ?_, fun x hx => ?_⟩
  · have hbl : b < l.length + 1 := by simp at hb; omega
    rw [hget a (by omega), hget b hb]
    split
    · split
      · exact h.lt _ _ _ hab
      · split
        · exact hp.lo _ _ (by omega)
        · exact h.lt _ _ _ (by omega)
    · split
      · rw [dif_neg (by omega), dif_neg (by omega)]
        exact hgt _ _ (by omega)
      · rw [dif_neg (by omega), dif_neg (by omega)]
        exact h.lt _ _ _ (by omega)
  · rcases List.mem_append.1 hx with hx | hx
    · exact h.one x (List.mem_of_mem_take hx)
    · rcases List.mem_cons.1 hx with rfl | hx
      · exact h1
      · exact h.one x (List.mem_of_mem_drop hx)
  · rcases List.mem_append.1 hx with hx | hx
    · exact h.max x (List.mem_of_mem_take hx)
    · rcases List.mem_cons.1 hx with rfl | hx
      · exact h2
      · exact h.max x (List.mem_of_mem_drop hx)

theorem handleS_ok {S : Sv} (h : SvOk S) (r : Rq) (work : Option (ByteArray → ByteArray)) (h2 : r.number ≤ 9223372036854775807) : SvOk (handleS S r work).1 := by
  unfold handleS
  split
  · exact h
  · rename_i hr
    split
    · exact h
    · split
      · exact h
      · rename_i hf
        split
        · exact h
        · cases work with
          | none => exact h
          | some f =>
            have hp := posOf_spec (h.asc r.client) r.number
            have hf' : foundAt (S.kept r.client) r.number (posOf (S.kept r.client) r.number) = false := by simpa using hf
            refine ⟨h.keep1, h.keep2, fun c => ?_, fun c => ?_⟩
            · show Asc (if c = r.client then _ else _)
              split
              · exact asc_drop (asc_insert (r := ⟨r.client, r.number, clipS (f r.text)⟩) (h.asc r.client) hp hf' (by show 1 ≤ r.number; omega) h2) _
              · exact h.asc c
            · show (((if c = r.client then _ else _ : List Rq)).length : Int) ≤ S.keep
              split
              · have := hp.le
                have h1 := h.keep1
                rw [List.length_drop]
                simp
                omega
              · exact h.len c

end Go.Proofs.Ytaglidlibocgpaa
