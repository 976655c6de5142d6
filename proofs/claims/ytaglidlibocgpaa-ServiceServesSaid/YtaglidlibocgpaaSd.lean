/-
  The reference's Handle: a contract.
-/
import Derived.Test.YtaglidlibocgpaaSk
namespace Go.Proofs.Ytaglidlibocgpaa
open Go.RowKit

/-- The three ways of the reference's Handle. -/
def RWay (K : List Rq) (keep done : Int) (r : Rq) (T : ByteArray) (K' : List Rq) (done' : Int) (x : Rq) (b : Bool) (er : Int) : Prop :=
  (er ≠ 0 ∧ (∃ b', OldWay K keep r b' er) ∧ K' = K ∧ done' = done ∧ x = zeroR ∧ b = false) ∨
  (er = 0 ∧ OldWay K keep r true 0 ∧ K' = K ∧ done' = done ∧ (∃ k : Nat, ∃ h : k < K.length, x = K[k] ∧ K[k].client = r.client ∧ K[k].number = r.number) ∧ b = false) ∨
  (er = 0 ∧ OldWay K keep r false 0 ∧ done' = done + 1 ∧ x = ⟨r.client, r.number, clipS T⟩ ∧ b = true ∧ ∃ m cnt, LeastAt (K ++ [x]) r.client (K ++ [x]).length m cnt ∧ K' = refKept K keep x m cnt)

/-- What the reference's Handle returns. -/
def RHandleEnds (K : List Rq) (keep done : Int) (r : Rq) (T : ByteArray) (v : Value) (w : World) (e : Ending) (w' : World) : Prop :=
  Below w.heap.size w w' ∧ ∃ K' done' v' x b er, e = .returned (.tuple #[.agg #[.int .i64 keep, v', .int .i64 done'], .agg #[.int .i64 x.client, .int .i64 x.number, .string x.text], .bool b, .int .i64 er]) ∧ Reads w' v' K'.length 3 (rqs K') ∧
    (∀ k, v'.ownBlock = some k → v.ownBlock = some k ∨ (w.heap.size ≤ k ∧ k < w'.heap.size)) ∧ RWay K keep done r T K' done' x b er

/-- The reference's find, and that it finds the first. -/
def FindFirst (K : List Rq) (c n : Int) (w : World) (e : Ending) (w' : World) : Prop :=
  Below w.heap.size w w' ∧ ((∃ k : Nat, ∃ h : k < K.length, e = .returned (.int .i64 k) ∧ K[k].client = c ∧ K[k].number = n ∧ ∀ j (h : j < K.length), j < k → ¬ (K[j].client = c ∧ K[j].number = n)) ∨ (e = .returned (.int .i64 (-1)) ∧ ∀ x ∈ K, ¬ (x.client = c ∧ x.number = n)))

set_option maxRecDepth 100000 in
set_option maxHeartbeats 1000000 in
theorem rfind_all (K : List Rq) (keep done c n : Int) (v : Value) (w : World) (hr : Reads w v K.length 3 (rqs K)) (hl : K.length ≤ 1000) :
    Calls Try.prog 31 #[.agg #[.int .i64 keep, v, .int .i64 done], .int .i64 c, .int .i64 n] w (FindFirst K c n w) := by
  obtain ⟨a, cap, rfl, hc, hm⟩ := hr.shape
  have HR := hid hr
  clear hr
  go_enter Try.func31, Try.ntmps31
  go_upto_region 1 with fail
  obtain ⟨w1, hw1⟩ : ∃ w1, w1 = w.alloc (.cells #[.int .i64 keep, .slice a K.length cap, .int .i64 done] 31) := ⟨_, rfl⟩
  have hb1 : Below w.heap.size w w1 := by rw [hw1]; exact (Below.refl _ _).alloc (Nat.le_refl _) _
  have b1 : w1.cell? ⟨w.heap.size, 1, none⟩ = some (.slice a K.length cap) := by rw [hw1]; simp
  have lb : w.heap.size < w1.heap.size := World.block_lt_of_cell? w1 _ b1
  have HR1 := hid (HR.out.below hb1)
  have HB1 := hid hb1
  rw [← hw1]
  clear hw1 hb1
  go_wp2_with fail
  go_loopg [7] (K.length + 1) (fun g i wr => ∃ k : Nat, i = .int .i64 k ∧ k ≤ K.length ∧ K.length - k < g ∧ Below w1.heap.size w1 wr ∧ ∀ j (h : j < K.length), j < k → ¬ (K[j].client = c ∧ K[j].number = n))
  case atStart => exact ⟨0, rfl, by omega, by omega, Below.refl _ _, fun j _ h => by omega⟩
  case round =>
    obtain ⟨k, rfl, hk, hg, hb, hno⟩ := hrel
    have cb : wr.cell? ⟨w.heap.size, 1, none⟩ = some (.slice a K.length cap) := (hb.cell (p := ⟨w.heap.size, 1, none⟩) lb).trans b1
    have HNO := hid hno
    clear hno
    by_cases hlt : k < K.length
    · obtain ⟨b, o, rfl⟩ := HR1.out.addr (by omega)
      obtain ⟨g0, g1, g2⟩ := rqs_get K k hlt
      have hrk := HR1.out.below hb
      have c0 := hrk.cell g0
      have c1 := hrk.cell g1
      rw [← Nat.add_assoc] at c1
      obtain ⟨x, hx⟩ : ∃ x, x = K[k] := ⟨_, rfl⟩
      rw [← hx] at c0 c1
      have HX := hid hx
      have HB := hid hb
      clear hx g0 g1 g2 hrk hb b1
      by_cases h1 : x.client = c
      · have e1 : (x.client == c) = true := by simpa using h1
        by_cases h2 : x.number = n
        · have e2 : (x.number == n) = true := by simpa using h2
          have H1 := hid h1
          have H2 := hid h2
          clear h1 h2
          go_wp2_with fail
          go_ret
          exact ⟨HB1.out.trans (HB.out.mono HB1.out.size), .inl ⟨k, hlt, rfl, HX.out ▸ H1.out, HX.out ▸ H2.out, HNO.out⟩⟩
        · have e2 : (x.number == n) = false := by simpa using h2
          have H2 := hid h2
          clear h1 h2
          go_wp2_with fail
          go_roundg (gk - 1)
          case measure => omega
          case rel => exact ⟨k + 1, by go_num, by omega, by omega, HB.out, once_next HNO.out (fun hjj => by rw [← HX.out]; exact fun hh => H2.out hh.2)⟩
      · have e1 : (x.client == c) = false := by simpa using h1
        have H1 := hid h1
        clear h1
        go_wp2_with fail
        go_roundg (gk - 1)
        case measure => omega
        case rel => exact ⟨k + 1, by go_num, by omega, by omega, HB.out, once_next HNO.out (fun hjj => by rw [← HX.out]; exact fun hh => H1.out hh.1)⟩
    · have HB := hid hb
      clear hb
      go_wp2_with fail
      go_ret
      refine ⟨HB1.out.trans (HB.out.mono HB1.out.size), .inr ⟨rfl, fun x hx => ?_⟩⟩
      obtain ⟨j, hj, rfl⟩ := List.getElem_of_mem hx
      exact HNO.out j hj (by omega)

theorem first_of {P : Nat → Prop} (k : Nat) : P k → ∃ k0, P k0 ∧ ∀ j, j < k0 → ¬ P j :=
  Nat.strongRecOn k fun n ih hn => by
    by_cases h : ∃ j, j < n ∧ P j
    · obtain ⟨j, hj, hp⟩ := h
      exact ih j hj hp
    · exact ⟨n, hn, fun j hj hp => h ⟨j, hj, hp⟩⟩
theorem first_match {K : List Rq} {c n : Int} (h : ∃ k : Nat, ∃ h : k < K.length, K[k].client = c ∧ K[k].number = n) :
    ∃ k : Nat, ∃ h : k < K.length, K[k].client = c ∧ K[k].number = n ∧ ∀ j (h : j < K.length), j < k → ¬ (K[j].client = c ∧ K[j].number = n) := by
  obtain ⟨k, hk⟩ := h
  obtain ⟨k0, ⟨h0, h1, h2⟩, hm⟩ := first_of (P := fun k => ∃ h : k < K.length, K[k].client = c ∧ K[k].number = n) k hk
  exact ⟨k0, h0, h1, h2, fun j hj hlt hh => hm j hlt ⟨hj, hh⟩⟩

theorem rfind_hit (K : List Rq) (keep done c n : Int) (v : Value) (w : World) (hr : Reads w v K.length 3 (rqs K)) (hl : K.length ≤ 1000) (k : Nat) (hk : k < K.length) (h1 : K[k].client = c) (h2 : K[k].number = n) (hf : ∀ j (h : j < K.length), j < k → ¬ (K[j].client = c ∧ K[j].number = n)) :
    Calls Try.prog 31 #[.agg #[.int .i64 keep, v, .int .i64 done], .int .i64 c, .int .i64 n] w fun e w' => Below w.heap.size w w' ∧ e = .returned (.int .i64 k) := by
  refine (rfind_all K keep done c n v w hr hl).mono fun e w' ⟨hb, hcase⟩ => ⟨hb, ?_⟩
  rcases hcase with ⟨k', hk', rfl, g1, g2, g3⟩ | ⟨_, h⟩
  · rcases Nat.lt_trichotomy k k' with h | h | h
    · exact absurd ⟨h1, h2⟩ (g3 k hk h)
    · rw [h]
    · exact absurd ⟨g1, g2⟩ (hf k' hk' h)
  · exact absurd ⟨h1, h2⟩ (h _ (List.getElem_mem hk))

/-- Four blocks in a row. -/
theorem rh_start (w : World) (o0 o1 o2 o3 : Obj) : ((((w.alloc o0).alloc o1).alloc o2).alloc o3).heap[w.heap.size]? = some o0 ∧ ((((w.alloc o0).alloc o1).alloc o2).alloc o3).heap[w.heap.size + 1]? = some o1 ∧
    ((((w.alloc o0).alloc o1).alloc o2).alloc o3).heap[w.heap.size + 1 + 1]? = some o2 ∧ ((((w.alloc o0).alloc o1).alloc o2).alloc o3).heap[w.heap.size + 1 + 1 + 1]? = some o3 ∧ ((((w.alloc o0).alloc o1).alloc o2).alloc o3).heap.size = w.heap.size + 1 + 1 + 1 + 1 := by
  have h1 := heap_alloc_new (w.alloc o0) o1
  have h2 := heap_alloc_new ((w.alloc o0).alloc o1) o2
  have h3 := heap_alloc_new (((w.alloc o0).alloc o1).alloc o2) o3
  simp only [World.size_alloc] at h1 h2 h3
  refine ⟨?_, ?_, ?_, h3, by simp⟩
  · rw [Below.heap_alloc _ _ _ (by simp <;> omega), Below.heap_alloc _ _ _ (by simp <;> omega), Below.heap_alloc _ _ _ (by simp)]
    exact heap_alloc_new w o0
  · rw [Below.heap_alloc _ _ _ (by simp <;> omega), Below.heap_alloc _ _ _ (by simp)]
    exact h1
  · rw [Below.heap_alloc _ _ _ (by simp)]
    exact h2

/-- The two results' cells written. -/
theorem rh_six {w w5 : World} (h : Below w.heap.size w w5) (a b c d e f : Value) :
    Below w.heap.size w ((((((w5.setCell ⟨w.heap.size + 1 + 1, 0, none⟩ a).setCell ⟨w.heap.size + 1 + 1, 1, none⟩ b).setCell ⟨w.heap.size + 1 + 1, 2, none⟩ c).setCell ⟨w.heap.size + 1 + 1 + 1, 0, none⟩ d).setCell ⟨w.heap.size + 1 + 1 + 1, 1, none⟩ e).setCell ⟨w.heap.size + 1 + 1 + 1, 2, none⟩ f) :=
  (((((h.setCell (p := ⟨w.heap.size + 1 + 1, 0, none⟩) (by simp only; omega) a).setCell (p := ⟨w.heap.size + 1 + 1, 1, none⟩) (by simp only; omega) b).setCell (p := ⟨w.heap.size + 1 + 1, 2, none⟩) (by simp only; omega) c).setCell (p := ⟨w.heap.size + 1 + 1 + 1, 0, none⟩) (by simp only; omega) d).setCell (p := ⟨w.heap.size + 1 + 1 + 1, 1, none⟩) (by simp only; omega) e).setCell (p := ⟨w.heap.size + 1 + 1 + 1, 2, none⟩) (by simp only; omega) f

theorem rh_six2 {w w5 : World} (h : Below w.heap.size w w5) {A B : Nat} (hA : w.heap.size ≤ A) (hB : w.heap.size ≤ B) (a b c d e f : Value) :
    Below w.heap.size w ((((((w5.setCell ⟨A, 0, none⟩ a).setCell ⟨A, 1, none⟩ b).setCell ⟨A, 2, none⟩ c).setCell ⟨B, 0, none⟩ d).setCell ⟨B, 1, none⟩ e).setCell ⟨B, 2, none⟩ f) :=
  (((((h.setCell (p := ⟨A, 0, none⟩) (by simpa using hA) a).setCell (p := ⟨A, 1, none⟩) (by simpa using hA) b).setCell (p := ⟨A, 2, none⟩) (by simpa using hA) c).setCell (p := ⟨B, 0, none⟩) (by simpa using hB) d).setCell (p := ⟨B, 1, none⟩) (by simpa using hB) e).setCell (p := ⟨B, 2, none⟩) (by simpa using hB) f

theorem rh_six_block (w5 : World) {A B k : Nat} (a b c d e f : Value) (hA : k ≠ A) (hB : k ≠ B) :
    ((((((w5.setCell ⟨A, 0, none⟩ a).setCell ⟨A, 1, none⟩ b).setCell ⟨A, 2, none⟩ c).setCell ⟨B, 0, none⟩ d).setCell ⟨B, 1, none⟩ e).setCell ⟨B, 2, none⟩ f).heap[k]? = w5.heap[k]? := by
  rw [Below.heap_setCell _ _ _ _ (by exact hB), Below.heap_setCell _ _ _ _ (by exact hB), Below.heap_setCell _ _ _ _ (by exact hB), Below.heap_setCell _ _ _ _ (by exact hA), Below.heap_setCell _ _ _ _ (by exact hA), Below.heap_setCell _ _ _ _ (by exact hA)]

theorem rh_reads {w9 wc : World} {Q : Nat} {keep done1 : Int} {v : Value} {L : List Rq} (O : OutAt w9 Q keep done1 v L wc) {A B : Nat} (hA : A < w9.heap.size) (hB : B < w9.heap.size) (a b c d e f : Value) :
    Reads ((((((wc.setCell ⟨A, 0, none⟩ a).setCell ⟨A, 1, none⟩ b).setCell ⟨A, 2, none⟩ c).setCell ⟨B, 0, none⟩ d).setCell ⟨B, 1, none⟩ e).setCell ⟨B, 2, none⟩ f) v L.length 3 (rqs L) :=
  O.reads.same fun k hk _ => rh_six_block wc a b c d e f (by have := (O.owns.lt k hk).1; omega) (by have := (O.owns.lt k hk).1; omega)

theorem rh_cells {w : World} {A B : Nat} {a0 b0 c0 d0 e0 f0 : Value} (hAB : A ≠ B) (h0 : w.cell? ⟨A, 0, none⟩ = some a0) (h1 : w.cell? ⟨A, 1, none⟩ = some b0) (h2 : w.cell? ⟨A, 2, none⟩ = some c0) (h3 : w.cell? ⟨B, 0, none⟩ = some d0) (h4 : w.cell? ⟨B, 1, none⟩ = some e0) (h5 : w.cell? ⟨B, 2, none⟩ = some f0) (a b c d e f : Value) :
    ((((((w.setCell ⟨A, 0, none⟩ a).setCell ⟨A, 1, none⟩ b).setCell ⟨A, 2, none⟩ c).setCell ⟨B, 0, none⟩ d).setCell ⟨B, 1, none⟩ e).setCell ⟨B, 2, none⟩ f).cell? ⟨A, 0, none⟩ = some a ∧
    ((((((w.setCell ⟨A, 0, none⟩ a).setCell ⟨A, 1, none⟩ b).setCell ⟨A, 2, none⟩ c).setCell ⟨B, 0, none⟩ d).setCell ⟨B, 1, none⟩ e).setCell ⟨B, 2, none⟩ f).cell? ⟨A, 1, none⟩ = some b ∧
    ((((((w.setCell ⟨A, 0, none⟩ a).setCell ⟨A, 1, none⟩ b).setCell ⟨A, 2, none⟩ c).setCell ⟨B, 0, none⟩ d).setCell ⟨B, 1, none⟩ e).setCell ⟨B, 2, none⟩ f).cell? ⟨A, 2, none⟩ = some c ∧
    ((((((w.setCell ⟨A, 0, none⟩ a).setCell ⟨A, 1, none⟩ b).setCell ⟨A, 2, none⟩ c).setCell ⟨B, 0, none⟩ d).setCell ⟨B, 1, none⟩ e).setCell ⟨B, 2, none⟩ f).cell? ⟨B, 0, none⟩ = some d ∧
    ((((((w.setCell ⟨A, 0, none⟩ a).setCell ⟨A, 1, none⟩ b).setCell ⟨A, 2, none⟩ c).setCell ⟨B, 0, none⟩ d).setCell ⟨B, 1, none⟩ e).setCell ⟨B, 2, none⟩ f).cell? ⟨B, 1, none⟩ = some e ∧
    ((((((w.setCell ⟨A, 0, none⟩ a).setCell ⟨A, 1, none⟩ b).setCell ⟨A, 2, none⟩ c).setCell ⟨B, 0, none⟩ d).setCell ⟨B, 1, none⟩ e).setCell ⟨B, 2, none⟩ f).cell? ⟨B, 2, none⟩ = some f := by
  have hBA := hAB.symm
  refine ⟨?_, ?_, ?_, ?_, ?_, ?_⟩ <;> simp [go_sem, h0, h1, h2, h3, h4, h5]

set_option maxRecDepth 100000 in
set_option maxHeartbeats 3000000 in
theorem rhandle_any (K : List Rq) (keep done : Int) (r : Rq) (T : ByteArray) (v : Value) (w : World) (hr : Reads w v K.length 3 (rqs K)) (hl : K.length ≤ 100) (hk : 1 ≤ keep) (hs : r.text.size ≤ 4100) (hT : T.size ≤ 8300) (hd0 : 0 ≤ done) (hd1 : done ≤ 1000000) :
    Calls Try.prog 14 #[.agg #[.int .i64 keep, v, .int .i64 done], .agg #[.int .i64 r.client, .int .i64 r.number, .string r.text], .string T] w (RHandleEnds K keep done r T v w) := by
  obtain ⟨a, cap, rfl, hc, hm⟩ := hr.shape
  have HR := hid hr
  clear hr
  go_enter Try.func14, Try.ntmps14
  go_upto_region 1 with fail
  obtain ⟨w4, hw4⟩ : ∃ w4, w4 = (((w.alloc (.cells #[.int .i64 keep, .slice a K.length cap, .int .i64 done] 31)).alloc (.cells #[.int .i64 r.client, .int .i64 r.number, .string r.text] 41)).alloc (.cells #[.int .i64 0, .slice none 0 0, .int .i64 0] 31)).alloc (.cells #[.int .i64 0, .int .i64 0, .string ⟨#[]⟩] 41) := ⟨_, rfl⟩
  have hB4 : Below w.heap.size w w4 := by rw [hw4]; exact ((((Below.refl w.heap.size w).alloc (Nat.le_refl _) _).alloc (by simp) _).alloc (by simp; omega) _).alloc (by simp; omega) _
  obtain ⟨s3, s4, s6, s7, s8⟩ := rh_start w (.cells #[.int .i64 keep, .slice a K.length cap, .int .i64 done] 31) (.cells #[.int .i64 r.client, .int .i64 r.number, .string r.text] 41) (.cells #[.int .i64 0, .slice none 0 0, .int .i64 0] 31) (.cells #[.int .i64 0, .int .i64 0, .string ⟨#[]⟩] 41)
  rw [← hw4] at s3 s4 s6 s7 s8 ⊢
  have H3 := hid s3
  have H4 := hid s4
  have H6 := hid s6
  have H7 := hid s7
  have H8 := hid s8
  have HB4 := hid hB4
  have HR4 := hid (HR.out.below hB4)
  have c30 : w4.cell? ⟨w.heap.size, 0, none⟩ = some (.int .i64 keep) := by rw [cell_of_row w4 _ 0 _ _ _ s3]; rfl
  have c31 : w4.cell? ⟨w.heap.size, 1, none⟩ = some (.slice a K.length cap) := by rw [cell_of_row w4 _ 1 _ _ _ s3]; rfl
  have c32 : w4.cell? ⟨w.heap.size, 2, none⟩ = some (.int .i64 done) := by rw [cell_of_row w4 _ 2 _ _ _ s3]; rfl
  have c40 : w4.cell? ⟨w.heap.size + 1, 0, none⟩ = some (.int .i64 r.client) := by rw [cell_of_row w4 _ 0 _ _ _ s4]; rfl
  have c41 : w4.cell? ⟨w.heap.size + 1, 1, none⟩ = some (.int .i64 r.number) := by rw [cell_of_row w4 _ 1 _ _ _ s4]; rfl
  have c42 : w4.cell? ⟨w.heap.size + 1, 2, none⟩ = some (.string r.text) := by rw [cell_of_row w4 _ 2 _ _ _ s4]; rfl
  clear hw4 hB4 s3 s4 s6 s7 s8
  go_wp2_with fail
  refine (rold_any K keep done r _ w4 HR4.out (by omega) hk hs).mono ?_
  rintro e w5 ⟨hb5, b, er, rfl, hway⟩
  have s8 := H8.out
  have HB5 := hid (HB4.out.trans (hb5.mono HB4.out.size))
  have HR5 := hid (HR4.out.below hb5)
  have H35 := hid ((hb5.block _ (by omega)).trans H3.out)
  have H45 := hid ((hb5.block _ (by omega)).trans H4.out)
  have H65 := hid ((hb5.block _ (by omega)).trans H6.out)
  have H75 := hid ((hb5.block _ (by omega)).trans H7.out)
  have hs5 := hb5.size
  rw [s8] at hs5
  have HS5 := hid hs5
  have d30 : w5.cell? ⟨w.heap.size, 0, none⟩ = some (.int .i64 keep) := by rw [cell_of_row w5 _ 0 _ _ _ H35.out]; rfl
  have d31 : w5.cell? ⟨w.heap.size, 1, none⟩ = some (.slice a K.length cap) := by rw [cell_of_row w5 _ 1 _ _ _ H35.out]; rfl
  have d32 : w5.cell? ⟨w.heap.size, 2, none⟩ = some (.int .i64 done) := by rw [cell_of_row w5 _ 2 _ _ _ H35.out]; rfl
  have d40 : w5.cell? ⟨w.heap.size + 1, 0, none⟩ = some (.int .i64 r.client) := by rw [cell_of_row w5 _ 0 _ _ _ H45.out]; rfl
  have d41 : w5.cell? ⟨w.heap.size + 1, 1, none⟩ = some (.int .i64 r.number) := by rw [cell_of_row w5 _ 1 _ _ _ H45.out]; rfl
  have e60 : w5.cell? ⟨w.heap.size + 1 + 1, 0, none⟩ = some (.int .i64 0) := by rw [cell_of_row w5 _ 0 _ _ _ H65.out]; rfl
  have e61 : w5.cell? ⟨w.heap.size + 1 + 1, 1, none⟩ = some (.slice none 0 0) := by rw [cell_of_row w5 _ 1 _ _ _ H65.out]; rfl
  have e62 : w5.cell? ⟨w.heap.size + 1 + 1, 2, none⟩ = some (.int .i64 0) := by rw [cell_of_row w5 _ 2 _ _ _ H65.out]; rfl
  have e70 : w5.cell? ⟨w.heap.size + 1 + 1 + 1, 0, none⟩ = some (.int .i64 0) := by rw [cell_of_row w5 _ 0 _ _ _ H75.out]; rfl
  have e71 : w5.cell? ⟨w.heap.size + 1 + 1 + 1, 1, none⟩ = some (.int .i64 0) := by rw [cell_of_row w5 _ 1 _ _ _ H75.out]; rfl
  have e72 : w5.cell? ⟨w.heap.size + 1 + 1 + 1, 2, none⟩ = some (.string ⟨#[]⟩) := by rw [cell_of_row w5 _ 2 _ _ _ H75.out]; rfl
  have z6 : ∀ o, w5.frozen? ⟨w.heap.size + 1 + 1, o, none⟩ = false := fun o => frozen_of_row w5 _ o _ _ H65.out
  have z7 : ∀ o, w5.frozen? ⟨w.heap.size + 1 + 1 + 1, o, none⟩ = false := fun o => frozen_of_row w5 _ o _ _ H75.out
  have HWAY := hid hway
  clear hb5 hway s8 hs5 c30 c31 c32 c40 c41 c42
  by_cases her : er = 0
  · subst her
    cases b
    · have hs5 := HS5.out
      obtain ⟨B, hB⟩ : ∃ B, B = w.heap.size + 1 + 1 + 1 := ⟨_, rfl⟩
      obtain ⟨A, hA⟩ : ∃ A, A = w.heap.size + 1 + 1 := ⟨_, rfl⟩
      obtain ⟨C, hC⟩ : ∃ C, C = w.heap.size + 1 := ⟨_, rfl⟩
      rw [← hB] at e70 e71 e72 z7 ⊢
      rw [← hA] at e60 e61 e62 z6 ⊢
      rw [← hC] at d40 d41 ⊢
      have n7 : A ≠ B := by omega
      have lA : A < w5.heap.size := by omega
      have lB : B < w5.heap.size := by omega
      have lC : C < w5.heap.size := by omega
      have lD : w.heap.size < w5.heap.size := by omega
      have HA := hid hA
      have HB := hid hB
      have HC := hid hC
      clear hA hB hC hs5
      go_upto_if 43 with fail
      go_cut [2] (fun s2 wx => s2 = .string (clipS T) ∧ w5 = wx)
      case first =>
        by_cases hbig : 4000 < T.size
        · have hT : clipS T = ⟨#[]⟩ := by unfold clipS; rw [if_pos hbig]
          have HT := hid hT
          clear hT
          go_wp2_with fail
          go_meet
          exact ⟨by rw [HT.out], rfl⟩
        · have hT : clipS T = T := by unfold clipS; rw [if_neg hbig]
          have HT := hid hT
          clear hT
          go_wp2_with fail
          go_meet
          exact ⟨by rw [HT.out], rfl⟩
      case rest =>
        obtain ⟨rfl, rfl⟩ := hcut
        go_upto_region 10 with fail
        obtain ⟨i0, hi, hz0, hz1, hz2⟩ := info_parts Try.info41
        obtain ⟨x, hx⟩ : ∃ x : Rq, x = ⟨r.client, r.number, clipS T⟩ := ⟨_, rfl⟩
        have x0 : r.client = x.client := by rw [hx]
        have x1 : r.number = x.number := by rw [hx]
        have x2 : clipS T = x.text := by rw [hx]
        obtain ⟨w9, hw9⟩ : ∃ w9, w9 = (w5.alloc (.cells #[.int .i64 r.client, .int .i64 r.number, .string (clipS T)] 41)).alloc (.cells #[.int .i64 keep, .slice none 0 0, .int .i64 (done + 1)] 31) := ⟨_, rfl⟩
        rw [← hw9]
        have hb9 : Below w5.heap.size w5 w9 := by rw [hw9]; exact ((Below.refl _ _).alloc (Nat.le_refl _) _).alloc (by simp) _
        have hp9 : w9.heap[w5.heap.size]? = some (.cells #[.int .i64 x.client, .int .i64 x.number, .string x.text] 41) := by rw [hw9, Below.heap_alloc _ _ _ (by simp), x0, x1, x2]; exact heap_alloc_new w5 _
        have hq9 : w9.heap[w5.heap.size + 1]? = some (.cells #[.int .i64 keep, .slice none 0 0, .int .i64 (done + 1)] 31) := by
          have := heap_alloc_new (w5.alloc (.cells #[.int .i64 r.client, .int .i64 r.number, .string (clipS T)] 41)) (.cells #[.int .i64 keep, .slice none 0 0, .int .i64 (done + 1)] 31)
          rw [World.size_alloc] at this
          rw [hw9]
          exact this
        have hz9 : w9.heap.size = w5.heap.size + 1 + 1 := by rw [hw9]; simp
        obtain ⟨Q, hQ⟩ : ∃ Q, Q = w5.heap.size + 1 := ⟨_, rfl⟩
        obtain ⟨P, hP⟩ : ∃ P, P = w5.heap.size := ⟨_, rfl⟩
        rw [← hQ] at hq9 ⊢
        rw [← hP] at hp9 ⊢
        have lQ : Q < w9.heap.size := by omega
        have lP : P < w9.heap.size := by omega
        have HX := hid hx
        have HB9 := hid hb9
        have HP9 := hid hp9
        have HO9 := hid (OutAt.start hq9)
        have HR9 := hid (HR5.out.below hb9)
        have HPQ := hid (show w5.heap.size = P ∧ w5.heap.size + 1 = Q ∧ w9.heap.size = w5.heap.size + 1 + 1 from ⟨hP.symm, hQ.symm, hz9⟩)
        have u31 : w9.cell? ⟨w.heap.size, 1, none⟩ = some (.slice a K.length cap) := (hb9.cell (p := ⟨w.heap.size, 1, none⟩) lD).trans d31
        have u30 : w9.cell? ⟨w.heap.size, 0, none⟩ = some (.int .i64 keep) := (hb9.cell (p := ⟨w.heap.size, 0, none⟩) lD).trans d30
        have u40 : w9.cell? ⟨C, 0, none⟩ = some (.int .i64 r.client) := (hb9.cell (p := ⟨C, 0, none⟩) lC).trans d40
        have q1 := HO9.out.c1
        have q1f := HO9.out.free 1
        have E60 := hid e60
        have E61 := hid e61
        have E62 := hid e62
        have E70 := hid e70
        have E71 := hid e71
        have E72 := hid e72
        have Z6 := hid z6
        have Z7 := hid z7
        have n3Q : w.heap.size ≠ Q := by omega
        have nCQ : C ≠ Q := by omega
        have nPQ : P ≠ Q := by omega
        have nAQ : A ≠ Q := by omega
        have nBQ : B ≠ Q := by omega
        have nAP : A ≠ P := by omega
        have nBP : B ≠ P := by omega
        have l39 : w.heap.size < w9.heap.size := by omega
        have lC9 : C < w9.heap.size := by omega
        clear x0 x1 x2 hx hw9 hb9 hp9 hq9 hz9 hQ hP d30 d31 d32 d40 d41 e60 e61 e62 e70 e71 e72 z6 z7
        go_upto_region 11 with (at_builtin; refine wpList_append_reads rfl (.tmp 57) (.tmp 59) 29 rfl w9.heap.size 41 i0 _ 3 32 Try.underlying29 hi hz0 hz1 hz2 rfl (by decide) (.slice none 0 0) 0 [] rfl HO9.out.owns (.slice a K.length cap) K.length (rqs K) rfl HR9.out (rqs_one K) (by unfold maxLen; omega) (by omega) (Nat.le_refl _) ?_; intro v10 w10 hown hgrow; rw [Nat.zero_add, List.nil_append] at hown; obtain ⟨a10, cap10, rfl, hc10, hm10⟩ := (Reads.of_owns hown).shape; have HO10 := hid (OutAt.store (L' := K) (v' := .slice a10 K.length cap10) lQ HO9.out.row HO9.out.upd hgrow (by simp [Value.ownBlock]) hown); have q2 : w10.cell? ⟨Q, 1, none⟩ = some (.slice none 0 0) := ((World.cell?_of_block (w := w9) (hgrow.block Q lQ (by simp [Value.ownBlock])))).trans q1; have q2f : w10.frozen? ⟨Q, 1, none⟩ = false := ((World.frozen?_of_block (w := w9) (hgrow.block Q lQ (by simp [Value.ownBlock])))).trans q1f; clear hown hgrow q1 q1f)
        obtain ⟨w11, hw11⟩ : ∃ w11, w11 = w10.setCell ⟨Q, 1, none⟩ (.slice a10 K.length cap10) := ⟨_, rfl⟩
        rw [← hw11] at HO10 ⊢
        have q3 := HO10.out.c1
        have q3f := HO10.out.free 1
        have p0 : w11.cell? ⟨P, 0, none⟩ = some (.int .i64 x.client) := (HO10.out.cell lP nPQ).trans (by rw [cell_of_row w9 _ 0 _ _ _ HP9.out]; rfl)
        have p1 : w11.cell? ⟨P, 1, none⟩ = some (.int .i64 x.number) := (HO10.out.cell lP nPQ).trans (by rw [cell_of_row w9 _ 1 _ _ _ HP9.out]; rfl)
        have p2 : w11.cell? ⟨P, 2, none⟩ = some (.string x.text) := (HO10.out.cell lP nPQ).trans (by rw [cell_of_row w9 _ 2 _ _ _ HP9.out]; rfl)
        have hgr9 := HO10.out.upd.size
        have HNEWS := hid (news_alloc w11 (rqs [x]) 41)
        have lQ11 : Q < w11.heap.size := by omega
        clear hw11 q2 q2f u31
        go_upto_region 12 with (at_builtin; refine wpList_append_own_at _ rfl (.tmp 63) (.tmp 65) 29 rfl w9.heap.size 41 i0 _ 3 32 Try.underlying29 hi hz0 hz1 hz2 rfl (by decide) (.slice a10 K.length cap10) K.length (rqs K) rfl (HO10.out.owns.alloc _) ⟨w11.heap.size, 0, none⟩ 1 1 (rqs [x]) rfl rfl HNEWS.out (rqs_one _) (by unfold maxLen; omega) (by omega) (by simp; omega) ?_; intro v12 w12 hown hgrow _ _; rw [← rqs_append] at hown; obtain ⟨a12, cap12, rfl, hc12, hm12⟩ := (Reads.of_owns hown).shape; have HO12 := hid (OutAt.store (L' := K ++ [x]) (v' := .slice a12 (K.length + 1) cap12) lQ ((Below.heap_alloc w11 _ Q lQ11).trans HO10.out.row) (HO10.out.upd.alloc _) hgrow (fun b hb => (HO10.out.owns.lt b hb).1) (by rw [List.length_append]; exact hown)); have q4 : w12.cell? ⟨Q, 1, none⟩ = some (.slice a10 K.length cap10) := ((World.cell?_of_block (w := w11) ((hgrow.block Q (by simp; omega) (fun e => by have := (HO10.out.owns.lt Q e.symm).1; omega)).trans (Below.heap_alloc w11 _ Q lQ11)))).trans q3; have q4f : w12.frozen? ⟨Q, 1, none⟩ = false := ((World.frozen?_of_block (w := w11) ((hgrow.block Q (by simp; omega) (fun e => by have := (HO10.out.owns.lt Q e.symm).1; omega)).trans (Below.heap_alloc w11 _ Q lQ11)))).trans q3f; clear hown hgrow q3 q3f)
        obtain ⟨w13, hw13⟩ : ∃ w13, w13 = w12.setCell ⟨Q, 1, none⟩ (.slice a12 (K.length + 1) cap12) := ⟨_, rfl⟩
        rw [← hw13] at HO12 ⊢
        have q0 := HO12.out.c0
        have q1 := HO12.out.c1
        have q2 := HO12.out.c2
        have u40' : w13.cell? ⟨C, 0, none⟩ = some (.int .i64 r.client) := (HO12.out.cell lC9 nCQ).trans u40
        clear hw13 q4 q4f p0 p1 p2 u40 lQ11
        go_wp2_with fail
        refine (rleast_any (K ++ [x]) keep (done + 1) r.client (.slice a12 (K.length + 1) cap12) w13 HO12.out.reads (by rw [List.length_append]; simp; omega)).mono ?_
        rintro e w14 ⟨hb14, m, cnt, rfl, hL⟩
        have HO14 := hid (HO12.out.below lQ hb14)
        have q0' := HO14.out.c0
        have q1' := HO14.out.c1
        have q1f' := HO14.out.free 1
        have u30' : w14.cell? ⟨w.heap.size, 0, none⟩ = some (.int .i64 keep) := (HO14.out.cell l39 n3Q).trans u30
        have hcl := hL.le
        have HL := hid hL
        clear hb14 q0 q1 q2 u40' u30 hL
        go_upto_if 78 with fail
        go_cut [] (fun wx => ∃ v', OutAt w9 Q keep (done + 1) v' (refKept K keep x m cnt) wx)
        case first =>
          by_cases hbig : keep < (cnt : Int)
          · rcases HL.out.2 with ⟨_, h0⟩ | ⟨j, hj, _, rfl, hjc, hmin⟩
            · exfalso; omega
            · have hrk : refKept K keep x (j : Int) cnt = (K ++ [x]).eraseIdx j := by unfold refKept; rw [if_pos hbig]; simp
              obtain ⟨L, hLl⟩ : ∃ L, L = K ++ [x] := ⟨_, rfl⟩
              obtain ⟨n, hn⟩ : ∃ n, n = K.length + 1 := ⟨_, rfl⟩
              have hLn : L.length = n := by rw [hLl, hn]; simp
              rw [← hLl] at hrk HO14 hj
              rw [← hn] at HO14 q1' ⊢
              obtain ⟨b2, o2, rfl⟩ := HO14.out.reads.addr (by omega)
              have hn1 : n ≤ 101 := by omega
              have hnc : n ≤ cap12 := by omega
              have lQ14 : Q < w14.heap.size := Nat.lt_of_lt_of_le lQ HO14.out.upd.size
              have hjn : j < n := by omega
              have HLN := hid hLn
              have HRK := hid hrk
              clear hLl hn hLn hrk hjc hmin hj hc12
              go_wp2_with fail
              have hbd : decide (keep < (cnt : Int)) = true := by simpa using hbig
              rw [hbd]
              clear hbig hbd
              go_loopg [16, 17] (n + 1) (fun g u i wr => ∃ k : Nat, i = .int .i64 k ∧ k ≤ n ∧ n - k < g ∧ wr.ownsRow w14.heap.size 41 3 u ((L.take k).eraseIdx j).length (rqs ((L.take k).eraseIdx j)) ∧ Below w14.heap.size w14 wr)
              case atStart => exact ⟨0, rfl, by omega, by omega, by simpa [rqs_nil] using World.ownsRow_nil w14 w14.heap.size 41 3, Below.refl _ _⟩
              case round =>
                obtain ⟨k, rfl, hk, hg, hown, hb⟩ := hrel
                have r1 : wr.cell? ⟨Q, 1, none⟩ = some (.slice (some ⟨b2, o2, none⟩) n cap12) := (hb.cell (p := ⟨Q, 1, none⟩) lQ14).trans q1'
                have r1f : wr.frozen? ⟨Q, 1, none⟩ = false := (hb.frozen (p := ⟨Q, 1, none⟩) lQ14).trans q1f'
                have hml := erase_take_len L k j
                obtain ⟨M, hM⟩ : ∃ M, M = (L.take k).eraseIdx j := ⟨_, rfl⟩
                rw [← hM] at hown hml
                obtain ⟨au, capu, rfl, hcu, hmu⟩ := (Reads.of_owns hown).shape
                have hsz := hb.size
                have HOWN := hid hown
                have HB := hid hb
                have HM := hid hM
                clear hown hM q1' q1f'
                by_cases hlt : k < n
                · have hki : (k : Int) < (n : Int) := by omega
                  by_cases hkj : k = j
                  · have e1 : ((k : Int) != (j : Int)) = false := by simp [hkj]
                    have HKJ := hid hkj
                    clear hkj hb
                    go_wp2_with fail
                    go_roundg (gk - 1)
                    case measure => omega
                    case rel => exact ⟨k + 1, by go_num, by omega, by omega, by rw [erase_take_same L HKJ.out, ← HM.out]; exact HOWN.out, HB.out⟩
                  · have e1 : ((k : Int) != (j : Int)) = true := by simp; omega
                    have hkL : k < L.length := by rw [HLN.out]; exact hlt
                    obtain ⟨g0, g1, g2⟩ := rqs_get L k hkL
                    have hrr := HO14.out.reads.below (hb.mono (Nat.le_refl _))
                    have c0 := hrr.cell g0
                    have c1 := hrr.cell g1
                    have c2 := hrr.cell g2
                    rw [← Nat.add_assoc] at c1 c2
                    obtain ⟨y, hy⟩ : ∃ y, y = L[k] := ⟨_, rfl⟩
                    rw [← hy] at c0 c1 c2
                    have HY := hid hy
                    have HNEWS := hid (news_alloc wr (rqs [y]) 41)
                    have HKJ := hid hkj
                    clear hkj hb g0 g1 g2 hrr hy
                    go_wp2_with (at_builtin; refine wpList_append_own_at _ rfl (.tmp 89) (.tmp 95) 29 rfl w14.heap.size 41 i0 _ 3 32 Try.underlying29 hi hz0 hz1 hz2 rfl (by decide) (.slice au M.length capu) M.length (rqs M) rfl (HOWN.out.alloc _) ⟨wr.heap.size, 0, none⟩ 1 1 (rqs [y]) rfl rfl HNEWS.out (rqs_one _) (by unfold maxLen; omega) (by omega) (by simp; omega) ?_; intro v15 w15 hown5 hgrow _ _; rw [← rqs_append] at hown5; have HGROW := hid hgrow; have HOWN5 := hid hown5; clear hgrow hown5)
                    go_roundg (gk - 1)
                    case measure => omega
                    case rel =>
                      refine ⟨k + 1, by go_num, by omega, by omega, ?_, ?_⟩
                      · rw [erase_take_next L hkL HKJ.out, ← HM.out, ← HY.out, List.length_append]
                        exact HOWN5.out
                      · exact (HB.out.alloc (by omega) _).grown HGROW.out (by simp; omega) (fun b hb => (HOWN.out.lt b hb).1)
                · have hkn : k = n := by omega
                  subst hkn
                  clear hb
                  go_wp2_with fail
                  go_meet
                  have hMe : M = refKept K keep x (j : Int) cnt := by rw [HRK.out, HM.out, List.take_of_length_le (by rw [HLN.out]; exact Nat.le_refl _)]
                  rw [← hMe]
                  exact ⟨_, OutAt.store (wz := wr) (row := none) lQ ((HB.out.block _ lQ14).trans HO14.out.row) (HO14.out.upd.then (Upd.of_new HB.out)) ⟨rfl, rfl, rfl, Nat.le_refl _, fun _ _ _ => rfl⟩ (by simp) (owns_base HOWN.out HO14.out.upd.size)⟩
          · have hrk : refKept K keep x m cnt = K ++ [x] := by unfold refKept; rw [if_neg hbig]
            have HRK := hid hrk
            clear hrk
            go_wp2_with fail
            go_meet
            rw [HRK.out]
            exact ⟨_, HO14.out⟩
        case rest =>
          obtain ⟨v', hO⟩ := hcut
          obtain ⟨K', hK'⟩ : ∃ K', K' = refKept K keep x m cnt := ⟨_, rfl⟩
          rw [← hK'] at hO
          obtain ⟨a', cap', rfl, hc', hm'⟩ := hO.reads.shape
          have q0 := hO.c0
          have q1 := hO.c1
          have q2 := hO.c2
          have p0 : wc.cell? ⟨P, 0, none⟩ = some (.int .i64 x.client) := (hO.cell lP nPQ).trans (by rw [cell_of_row w9 _ 0 _ _ _ HP9.out]; rfl)
          have p1 : wc.cell? ⟨P, 1, none⟩ = some (.int .i64 x.number) := (hO.cell lP nPQ).trans (by rw [cell_of_row w9 _ 1 _ _ _ HP9.out]; rfl)
          have p2 : wc.cell? ⟨P, 2, none⟩ = some (.string x.text) := (hO.cell lP nPQ).trans (by rw [cell_of_row w9 _ 2 _ _ _ HP9.out]; rfl)
          have lA9 : A < w9.heap.size := Nat.lt_of_lt_of_le lA HB9.out.size
          have lB9 : B < w9.heap.size := Nat.lt_of_lt_of_le lB HB9.out.size
          have m60 := (hO.cell lA9 nAQ).trans ((HB9.out.cell (p := ⟨A, 0, none⟩) lA).trans E60.out)
          have m61 := (hO.cell lA9 nAQ).trans ((HB9.out.cell (p := ⟨A, 1, none⟩) lA).trans E61.out)
          have m62 := (hO.cell lA9 nAQ).trans ((HB9.out.cell (p := ⟨A, 2, none⟩) lA).trans E62.out)
          have m70 := (hO.cell lB9 nBQ).trans ((HB9.out.cell (p := ⟨B, 0, none⟩) lB).trans E70.out)
          have m71 := (hO.cell lB9 nBQ).trans ((HB9.out.cell (p := ⟨B, 1, none⟩) lB).trans E71.out)
          have m72 := (hO.cell lB9 nBQ).trans ((HB9.out.cell (p := ⟨B, 2, none⟩) lB).trans E72.out)
          have z6 : ∀ o, wc.frozen? ⟨A, o, none⟩ = false := fun o => (hO.frozen lA9 nAQ).trans ((HB9.out.frozen (p := ⟨A, o, none⟩) lA).trans (Z6.out o))
          have z7 : ∀ o, wc.frozen? ⟨B, o, none⟩ = false := fun o => (hO.frozen lB9 nBQ).trans ((HB9.out.frozen (p := ⟨B, o, none⟩) lB).trans (Z7.out o))
          have HO := hid hO
          have HK' := hid hK'
          have nQA := nAQ.symm
          have nQB := nBQ.symm
          have nPA := nAP.symm
          have nPB := nBP.symm
          clear hO hK'
          go_upto_region 21 with fail
          go_region
          all_goals
            go_wp2_with fail
            have hw0 : Below w.heap.size w wc := ((Upd.of_below (F := fun i => w.heap.size ≤ i) (HB5.out.trans (HB9.out.mono HB5.out.size)) fun i h _ => h).trans HO.out.upd (fun i hi => .inr (by have := HPQ.out; omega))).below (Nat.le_refl _) fun i hi => hi
            have hfin := (rh_six2 hw0 (A := A) (B := B) (by have := HA.out; omega) (by have := HB.out; omega) (.int .i64 keep) (.slice a' K'.length cap') (.int .i64 (done + 1)) (.int .i64 x.client) (.int .i64 x.number) (.string x.text)).drew
            have hown : ∀ k, (Value.slice a' K'.length cap').ownBlock = some k → (Value.slice a K.length cap).ownBlock = some k ∨ (w.heap.size ≤ k ∧ k < wc.heap.size) := fun k hk => .inr ⟨Nat.le_trans (Nat.le_trans HB5.out.size HB9.out.size) (HO.out.owns.lt k hk).1, (HO.out.owns.lt k hk).2⟩
            have hrd := (rh_reads HO.out lA9 lB9 (.int .i64 keep) (.slice a' K'.length cap') (.int .i64 (done + 1)) (.int .i64 x.client) (.int .i64 x.number) (.string x.text)).drew
            exact bodyPost_ret (v := .tuple #[.agg #[.int .i64 keep, .slice a' K'.length cap', .int .i64 (done + 1)], .agg #[.int .i64 x.client, .int .i64 x.number, .string x.text], .bool true, .int .i64 0]) (by obtain ⟨q0, q1, q2, q3, q4, q5⟩ := rh_cells (A := A) (B := B) n7 m60 m61 m62 m70 m71 m72 (.int .i64 keep) (.slice a' K'.length cap') (.int .i64 (done + 1)) (.int .i64 x.client) (.int .i64 x.number) (.string x.text); simp [results, Try.results14, go_sem, q0, q1, q2, q3, q4, q5]) rfl
              ⟨hfin, K', done + 1, _, x, true, 0, rfl, hrd, fun k hk => (hown k hk).imp id fun h => ⟨h.1, by simpa using h.2⟩, .inr (.inr ⟨rfl, HWAY.out, rfl, HX.out, rfl, m, cnt, HL.out, HK'.out⟩)⟩
    · have hway := HWAY.out
      have hex : ∃ k : Nat, ∃ h : k < K.length, K[k].client = r.client ∧ K[k].number = r.number := by
        rcases hway with ⟨_, h, _⟩ | ⟨_, _, h, _⟩ | ⟨_, _, h, _⟩ | ⟨_, _, _, h, _⟩
        · cases h
        · cases h
        · exact h
        · cases h
      have HEX := hid hex
      clear hway hex
      have hs5 := HS5.out
      obtain ⟨k, hkl, hk1, hk2, hk3⟩ := first_match HEX.out
      have HK1 := hid hk1
      have HK2 := hid hk2
      have HK3 := hid hk3
      have hki : (k : Int) < (K.length : Int) := by omega
      clear hk1 hk2 hk3
      obtain ⟨bb, oo, rfl⟩ := HR5.out.addr (by omega)
      obtain ⟨g0, g1, g2⟩ := rqs_get K k hkl
      have k50 := HR5.out.cell g0
      have k51 := HR5.out.cell g1
      have k52 := HR5.out.cell g2
      rw [← Nat.add_assoc] at k51 k52
      obtain ⟨x, hx⟩ : ∃ x, x = K[k] := ⟨_, rfl⟩
      rw [← hx] at k50 k51 k52
      have HX := hid hx
      clear g0 g1 g2 hx
      go_upto_region 5 with fail
      have nb : bb < w.heap.size := by obtain ⟨k, hk, _⟩ := HEX.out; exact World.block_lt_of_cell? w _ (HR.out.cell (rqs_get K k hk).1)
      obtain ⟨B, hB⟩ : ∃ B, B = w.heap.size + 1 + 1 + 1 := ⟨_, rfl⟩
      obtain ⟨A, hA⟩ : ∃ A, A = w.heap.size + 1 + 1 := ⟨_, rfl⟩
      obtain ⟨C, hC⟩ : ∃ C, C = w.heap.size + 1 := ⟨_, rfl⟩
      rw [← hB] at e70 e71 e72 z7 ⊢
      rw [← hA] at e60 e61 e62 z6 ⊢
      rw [← hC] at d40 d41 ⊢
      have n1 : bb ≠ A := by omega
      have n2 : bb ≠ B := by omega
      have n3 : w.heap.size ≠ A := by omega
      have n4 : w.heap.size ≠ B := by omega
      have n5 : C ≠ A := by omega
      have n6 : C ≠ B := by omega
      have n7 : A ≠ B := by omega
      have lA : A < w5.heap.size := by omega
      have lB : B < w5.heap.size := by omega
      have lC : C < w5.heap.size := by omega
      have lD : w.heap.size < w5.heap.size := by omega
      have lbb : bb < w5.heap.size := by omega
      have HA := hid hA
      have HB := hid hB
      have HC := hid hC
      clear nb hA hB hC hs5
      go_region_held3 (fun w' => w'.cell? ⟨w.heap.size, 0, none⟩ = some (.int .i64 keep) ∧ w'.cell? ⟨w.heap.size, 1, none⟩ = some (.slice (some ⟨bb, oo, none⟩) K.length cap) ∧ w'.cell? ⟨w.heap.size, 2, none⟩ = some (.int .i64 done) ∧ w'.cell? ⟨C, 0, none⟩ = some (.int .i64 r.client) ∧ w'.cell? ⟨C, 1, none⟩ = some (.int .i64 r.number) ∧ w'.cell? ⟨bb, oo + k * 3, none⟩ = some (.int .i64 x.client) ∧ w'.cell? ⟨bb, oo + k * 3 + 1, none⟩ = some (.int .i64 x.number) ∧ w'.cell? ⟨bb, oo + k * 3 + 2, none⟩ = some (.string x.text))
        (first | go_keep | (refine ⟨?_, ?_, ?_, ?_, ?_, ?_, ?_, ?_⟩ <;> (repeat rw [World.cell?_setCell_other _ _ _ _ (by intro h; simp only [Addr.mk.injEq] at h; omega)]) <;> assumption))
        (first
          | (go_at_call 31
             refine (rfind_hit K keep done r.client r.number _ w5.drew HR5.out.drew (by omega) k hkl HK1.out HK2.out HK3.out).mono ?_
             rintro e w6 ⟨hb6, rfl⟩
             have k0 := (hb6.cell (p := ⟨bb, oo + k * 3, none⟩) (by show _ < w5.heap.size; assumption)).trans k50
             have k1 := (hb6.cell (p := ⟨bb, oo + k * 3 + 1, none⟩) (by show _ < w5.heap.size; assumption)).trans k51
             have k2 := (hb6.cell (p := ⟨bb, oo + k * 3 + 2, none⟩) (by show _ < w5.heap.size; assumption)).trans k52
             have m30 := (hb6.cell (p := ⟨w.heap.size, 0, none⟩) (by show _ < w5.heap.size; assumption)).trans d30
             have m31 := (hb6.cell (p := ⟨w.heap.size, 1, none⟩) (by show _ < w5.heap.size; assumption)).trans d31
             have m32 := (hb6.cell (p := ⟨w.heap.size, 2, none⟩) (by show _ < w5.heap.size; assumption)).trans d32
             have m40 := (hb6.cell (p := ⟨C, 0, none⟩) (by show _ < w5.heap.size; assumption)).trans d40
             have m41 := (hb6.cell (p := ⟨C, 1, none⟩) (by show _ < w5.heap.size; assumption)).trans d41
             have m60 := (hb6.cell (p := ⟨A, 0, none⟩) (by show _ < w5.heap.size; assumption)).trans e60
             have m61 := (hb6.cell (p := ⟨A, 1, none⟩) (by show _ < w5.heap.size; assumption)).trans e61
             have m62 := (hb6.cell (p := ⟨A, 2, none⟩) (by show _ < w5.heap.size; assumption)).trans e62
             have m70 := (hb6.cell (p := ⟨B, 0, none⟩) (by show _ < w5.heap.size; assumption)).trans e70
             have m71 := (hb6.cell (p := ⟨B, 1, none⟩) (by show _ < w5.heap.size; assumption)).trans e71
             have m72 := (hb6.cell (p := ⟨B, 2, none⟩) (by show _ < w5.heap.size; assumption)).trans e72
             have zz6 : ∀ o, w6.frozen? ⟨A, o, none⟩ = false := (fun o => (hb6.frozen (p := ⟨A, o, none⟩) (by show _ < w5.heap.size; assumption)).trans (z6 o))
             have zz7 : ∀ o, w6.frozen? ⟨B, o, none⟩ = false := (fun o => (hb6.frozen (p := ⟨B, o, none⟩) (by show _ < w5.heap.size; assumption)).trans (z7 o))
             have HB6 := hid hb6
             clear hb6))
      all_goals
        go_wp2_with fail
        have hfin := rh_six2 ((show Below w.heap.size w w5.drew from HB5.out.trans ⟨rfl, rfl, rfl, Nat.le_refl _, fun _ _ => rfl⟩).trans (HB6.out.mono HB5.out.size)) (A := A) (B := B) (by have := HA.out; omega) (by have := HB.out; omega) (.int .i64 keep) (.slice (some ⟨bb, oo, none⟩) K.length cap) (.int .i64 done) (.int .i64 x.client) (.int .i64 x.number) (.string x.text)
        exact bodyPost_ret (v := .tuple #[.agg #[.int .i64 keep, .slice (some ⟨bb, oo, none⟩) K.length cap, .int .i64 done], .agg #[.int .i64 x.client, .int .i64 x.number, .string x.text], .bool false, .int .i64 0]) (by obtain ⟨q0, q1, q2, q3, q4, q5⟩ := rh_cells (A := A) (B := B) n7 m60 m61 m62 m70 m71 m72 (.int .i64 keep) (.slice (some ⟨bb, oo, none⟩) K.length cap) (.int .i64 done) (.int .i64 x.client) (.int .i64 x.number) (.string x.text); simp [results, Try.results14, go_sem, q0, q1, q2, q3, q4, q5]) rfl
          ⟨hfin, K, done, _, x, false, 0, rfl, HR.out.below hfin, fun k hk => .inl hk, .inr (.inl ⟨rfl, HWAY.out, rfl, rfl, ⟨k, hkl, HX.out, HK1.out, HK2.out⟩, rfl⟩)⟩
  · have e1 : (er != 0) = true := by simpa using her
    have HER := hid her
    clear her
    go_wp2_with fail
    have hfin := rh_six HB5.out (.int .i64 keep) (.slice a K.length cap) (.int .i64 done) (.int .i64 0) (.int .i64 0) (.string ⟨#[]⟩)
    exact bodyPost_ret (v := .tuple #[.agg #[.int .i64 keep, .slice a K.length cap, .int .i64 done], .agg #[.int .i64 0, .int .i64 0, .string ⟨#[]⟩], .bool false, .int .i64 er]) (by obtain ⟨q0, q1, q2, q3, q4, q5⟩ := rh_cells (A := w.heap.size + 1 + 1) (B := w.heap.size + 1 + 1 + 1) (by omega) e60 e61 e62 e70 e71 e72 (.int .i64 keep) (.slice a K.length cap) (.int .i64 done) (.int .i64 0) (.int .i64 0) (.string ⟨#[]⟩); simp [results, Try.results14, go_sem, q0, q1, q2, q3, q4, q5]) rfl
      ⟨hfin, K, done, _, zeroR, false, er, rfl, HR.out.below hfin, fun k hk => .inl hk, .inl ⟨HER.out, ⟨b, HWAY.out⟩, rfl, rfl, rfl, rfl⟩⟩

end Go.Proofs.Ytaglidlibocgpaa
