/-
  (*Server).Handle, step by step: what each way through it returns, over the server's memory.
-/
import Derived.Test.YtaglidlibocgpaaI
import Derived.BigQuiet
namespace Go.Proofs.Ytaglidlibocgpaa
open Go.RowKit

theorem bcell {W w1 : World} (hb : Below W.heap.size W w1) : (∀ b o, b < W.heap.size → w1.cell? ⟨b, o, none⟩ = W.cell? ⟨b, o, none⟩) ∧ (∀ b o, b < W.heap.size → w1.frozen? ⟨b, o, none⟩ = W.frozen? ⟨b, o, none⟩) :=
  ⟨fun b o h => hb.cell (p := ⟨b, o, none⟩) h, fun b o h => hb.frozen (p := ⟨b, o, none⟩) h⟩

theorem cell_new3 (w : World) (A B : Obj) (v : Value) (t : TypeId) : (((w.alloc A).alloc B).alloc (.cells #[v] t)).cell? ⟨w.heap.size + 1 + 1, 0, none⟩ = some v := by
  have := World.cell?_alloc_new ((w.alloc A).alloc B) #[v] t 0
  simp only [World.size_alloc] at this
  exact this
theorem below2 (w : World) (A B : Obj) : Below w.heap.size w ((w.alloc A).alloc B) := ((Below.refl _ _).alloc (Nat.le_refl _) _).alloc (by simp) _
theorem below3 (w : World) (A B C : Obj) : Below w.heap.size w (((w.alloc A).alloc B).alloc C) := (((Below.refl _ _).alloc (Nat.le_refl _) _).alloc (by simp) _).alloc (by simp; omega) _

/-- What is known of the blocks of the call's own, behind what makes new memory alone. -/
theorem own3 {w w4 : World} {v0 v1 v2 z0 z1 z2 : Value} {C : Obj} (hb : Below (((w.alloc (.cells #[v0, v1, v2] 37)).alloc (.cells #[z0, z1, z2] 37)).alloc C).heap.size (((w.alloc (.cells #[v0, v1, v2] 37)).alloc (.cells #[z0, z1, z2] 37)).alloc C) w4) :
    (w4.cell? ⟨w.heap.size, 0, none⟩ = some v0 ∧ w4.cell? ⟨w.heap.size, 1, none⟩ = some v1 ∧ w4.cell? ⟨w.heap.size, 2, none⟩ = some v2) ∧
    (w4.cell? ⟨w.heap.size + 1, 0, none⟩ = some z0 ∧ w4.cell? ⟨w.heap.size + 1, 1, none⟩ = some z1 ∧ w4.cell? ⟨w.heap.size + 1, 2, none⟩ = some z2) ∧
    (∀ o, w4.frozen? ⟨w.heap.size + 1, o, none⟩ = false) ∧ w.heap.size + 1 + 1 + 1 ≤ w4.heap.size := by
  have h1 : ∀ o, w4.cell? ⟨w.heap.size, o, none⟩ = #[v0, v1, v2][o]? := fun o => by
    rw [hb.cell (p := ⟨w.heap.size, o, none⟩) (by simp; omega), World.cell?_alloc_lt _ _ _ (by simp; omega), World.cell?_alloc_lt _ _ _ (by simp), World.cell?_alloc_new]
  have h2 : ∀ o, w4.cell? ⟨w.heap.size + 1, o, none⟩ = #[z0, z1, z2][o]? := fun o => by
    rw [hb.cell (p := ⟨w.heap.size + 1, o, none⟩) (by simp), World.cell?_alloc_lt _ _ _ (by simp)]
    have := World.cell?_alloc_new (w.alloc (.cells #[v0, v1, v2] 37)) #[z0, z1, z2] 37 o
    rwa [World.size_alloc] at this
  have h3 : ∀ o, w4.frozen? ⟨w.heap.size + 1, o, none⟩ = false := fun o => by
    rw [hb.frozen (p := ⟨w.heap.size + 1, o, none⟩) (by simp), World.frozen?_alloc_old _ _ _ (by simp)]
    have := World.frozen?_alloc_new (w.alloc (.cells #[v0, v1, v2] 37)) #[z0, z1, z2] 37 o
    rwa [World.size_alloc] at this
  exact ⟨⟨h1 0, h1 1, h1 2⟩, ⟨h2 0, h2 1, h2 2⟩, h3, by have := hb.size; simpa using this⟩

theorem below_three {w w4 : World} (h : Below w.heap.size w w4) (nq : Nat) (u0 u1 u2 : Value) :
    Below w.heap.size w ((((w4.drewN nq).setCell ⟨w.heap.size + 1, 0, none⟩ u0).setCell ⟨w.heap.size + 1, 1, none⟩ u1).setCell ⟨w.heap.size + 1, 2, none⟩ u2) :=
  (((h.trans (show Below w.heap.size w4 (w4.drewN nq) from ⟨rfl, rfl, rfl, Nat.le_refl _, fun _ _ => rfl⟩)).setCell (p := ⟨w.heap.size + 1, 0, none⟩) (Nat.le_succ _) _).setCell (p := ⟨w.heap.size + 1, 1, none⟩) (Nat.le_succ _) _).setCell (p := ⟨w.heap.size + 1, 2, none⟩) (Nat.le_succ _) _

/-- No call. -/
def zeroRq : Value := .agg #[.int .i64 0, .int .i64 0, .string ⟨#[]⟩]

set_option maxRecDepth 100000 in
set_option maxHeartbeats 400000 in
theorem handle_nil (c n : Int) (s : ByteArray) (f : Value) (w : World) : Calls Try.prog 12 #[.pointer none, .agg #[.int .i64 c, .int .i64 n, .string s], f] w fun e w' => e = .returned (.tuple #[zeroRq, .bool false, .int .i64 6]) ∧ Below w.heap.size w w' := by
  go_enter Try.func12, Try.ntmps12
  go_wp2_with fail
  exact bodyPost_ret (v := .tuple #[.agg #[.int .i64 0, .int .i64 0, .string ⟨#[]⟩], .bool false, .int .i64 6]) (by simp [results, Try.results12, go_sem]) rfl ⟨rfl, ((Below.refl _ _).alloc (Nat.le_refl _) _).alloc (by simp) _⟩

set_option maxRecDepth 100000 in
set_option maxHeartbeats 400000 in
theorem handle_range (sb mb : Nat) (c n : Int) (s : ByteArray) (f : Value) (w : World) (hc2 : w.cell? ⟨sb, 2, none⟩ = some (.map (some mb))) (h : c < 1 ∨ n < 1) :
    Calls Try.prog 12 #[.pointer (some ⟨sb, 0, none⟩), .agg #[.int .i64 c, .int .i64 n, .string s], f] w fun e w' => e = .returned (.tuple #[zeroRq, .bool false, .int .i64 4]) ∧ Below w.heap.size w w' := by
  have hlt := World.block_lt_of_cell? w _ hc2
  have hmn := fun W => run_eql_map_nil (P := Try.prog) W 69 3 47 (some mb) Try.underlying69
  by_cases hc : c < 1
  · go_enter Try.func12, Try.ntmps12
    go_wp2_with fail
    exact bodyPost_ret (v := .tuple #[.agg #[.int .i64 0, .int .i64 0, .string ⟨#[]⟩], .bool false, .int .i64 4]) (by simp [results, Try.results12, go_sem]) rfl ⟨rfl, ((Below.refl _ _).alloc (Nat.le_refl _) _).alloc (by simp) _⟩
  · have hn : n < 1 := by omega
    go_enter Try.func12, Try.ntmps12
    go_wp2_with fail
    exact bodyPost_ret (v := .tuple #[.agg #[.int .i64 0, .int .i64 0, .string ⟨#[]⟩], .bool false, .int .i64 4]) (by simp [results, Try.results12, go_sem]) rfl ⟨rfl, ((Below.refl _ _).alloc (Nat.le_refl _) _).alloc (by simp) _⟩

set_option maxRecDepth 100000 in
set_option maxHeartbeats 400000 in
theorem handle_long (sb mb : Nat) (c n : Int) (s : ByteArray) (f : Value) (w : World) (hc2 : w.cell? ⟨sb, 2, none⟩ = some (.map (some mb))) (hc : 1 ≤ c) (hn : 1 ≤ n) (hs : 4000 < s.size) (hs2 : s.size ≤ 4100) :
    Calls Try.prog 12 #[.pointer (some ⟨sb, 0, none⟩), .agg #[.int .i64 c, .int .i64 n, .string s], f] w fun e w' => e = .returned (.tuple #[zeroRq, .bool false, .int .i64 3]) ∧ Below w.heap.size w w' := by
  have hlt := World.block_lt_of_cell? w _ hc2
  have hmn := fun W => run_eql_map_nil (P := Try.prog) W 69 3 47 (some mb) Try.underlying69
  go_enter Try.func12, Try.ntmps12
  go_wp2_with fail
  exact bodyPost_ret (v := .tuple #[.agg #[.int .i64 0, .int .i64 0, .string ⟨#[]⟩], .bool false, .int .i64 3]) (by simp [results, Try.results12, go_sem]) rfl ⟨rfl, ((Below.refl _ _).alloc (Nat.le_refl _) _).alloc (by simp) _⟩

theorem func_nil (w : World) : (binOp .eql 40 .nilFunc .nilFunc).run Try.prog w = .ok (.bool true) w := by kernel_rfl
theorem func_some (w : World) : (binOp .eql 40 (.func (.func 13) #[] #[]) .nilFunc).run Try.prog w = .ok (.bool false) w := by kernel_rfl

/-- What is known of the server's memory, and of the replies that it keeps for the client. -/
structure Kept (w : World) (sb mb : Nat) (c keep done : Int) (l : List Rq) (a : Option Addr) (cap : Nat) : Prop where
  row : w.heap[sb]? = some (.cells #[.int .i64 keep, .int .i64 done, .map (some mb)] 71 (0, 0))
  mlt : mb < w.heap.size
  look : ∀ W : World, W.heap[mb]? = w.heap[mb]? → (Instr.lookup 69 (.map (some mb)) (.int .i64 c) false).run Try.prog W = .ok (.slice a l.length cap) W
  reads : Reads w (.slice a l.length cap) l.length 3 (rqs l)
  asc : Asc l
  few : l.length ≤ 1000

set_option maxRecDepth 100000 in
set_option maxHeartbeats 1000000 in
theorem handle_found (sb mb : Nat) (c n keep done : Int) (s : ByteArray) (f : Value) (l : List Rq) (a : Option Addr) (cap i : Nat) (w : World) (K : Kept w sb mb c keep done l a cap) (hc : 1 ≤ c) (hn : 1 ≤ n) (hn2 : n ≤ 9223372036854775807) (hs : s.size ≤ 4000)
    (hp : IsPos l n i) (hi : i < l.length) (hf : l[i].number = n) :
    Calls Try.prog 12 #[.pointer (some ⟨sb, 0, none⟩), .agg #[.int .i64 c, .int .i64 n, .string s], f] w fun e w' => e = .returned (.tuple #[l[i].value, .bool false, .int .i64 0]) ∧ Below w.heap.size w w' := by
  have hc0 : w.cell? ⟨sb, 0, none⟩ = some (.int .i64 keep) := by rw [cell_of_row w sb 0 _ _ _ K.row]; rfl
  have hc2 : w.cell? ⟨sb, 2, none⟩ = some (.map (some mb)) := by rw [cell_of_row w sb 2 _ _ _ K.row]; rfl
  have hlt := World.block_lt_of_cell? w _ hc2
  have hmn := fun W => run_eql_map_nil (P := Try.prog) W 69 3 47 (some mb) Try.underlying69
  obtain ⟨b, o, rfl⟩ := K.reads.addr (by omega)
  have hfound : foundAt l n i = true := by unfold foundAt; rw [List.getElem?_eq_getElem hi]; simpa using hf
  have HF := hid hf
  clear hf
  go_enter Try.func12, Try.ntmps12
  go_wp2_with fail
  refine (of_any sb mb c _ l.length cap _ (((below2 w _ _).cell hlt).trans hc2) (K.look _ ((below2 w _ _).block mb K.mlt))).mono ?_
  rintro e w3 ⟨rfl, rfl⟩
  go_wp2_with fail
  refine (find_any _ l n _ cap _ (cell_new3 _ _ _ _ _) (K.reads.below (below3 w _ _ _)) K.asc hn hn2 K.few).mono ?_
  rintro e w4 ⟨i', hp', rfl, hb4⟩
  obtain rfl := hp'.unique hp
  have hb40 := (below3 w _ _ _).trans (hb4.mono (below3 w _ _ _).size)
  obtain ⟨⟨x0, x1, x2⟩, ⟨y0, y1, y2⟩, yf, hz4⟩ := own3 hb4
  have e0 : w4.cell? ⟨sb, 0, none⟩ = some (.int .i64 keep) := (hb40.cell hlt).trans hc0
  have e2 : w4.cell? ⟨sb, 2, none⟩ = some (.map (some mb)) := (hb40.cell hlt).trans hc2
  have hlk := fun nq => K.look (w4.drewN nq) (hb40.block mb K.mlt)
  have hr4 := K.reads.below hb40
  obtain ⟨g0, g1, g2⟩ := rqs_get l i' hi
  have c0 := hr4.cell g0
  have c1 := hr4.cell g1
  have c2 := hr4.cell g2
  rw [← Nat.add_assoc] at c1 c2
  have HB40 := hid hb40
  clear hb40 hb4 hr4 g0 g1 g2
  go_wp2_with fail
  go_quiet (fail)
  clear hlk
  obtain ⟨x, hx⟩ : ∃ x, x = l[i'] := ⟨_, rfl⟩
  rw [← hx] at c0 c1 c2 HF
  have HX := hid hx
  clear hx
  have hfew := K.few
  go_wp2_with fail
  refine bodyPost_ret (v := .tuple #[.agg #[.int .i64 x.client, .int .i64 x.number, .string x.text], .bool false, .int .i64 0]) (by simp [results, Try.results12, go_sem, y0, y1, y2]) rfl ⟨by rw [← HX.out]; rfl, ?_⟩
  exact below_three HB40.out _ _ _ _

set_option maxRecDepth 100000 in
set_option maxHeartbeats 1000000 in
theorem handle_old (sb mb : Nat) (c n keep done : Int) (s : ByteArray) (f : Value) (l : List Rq) (a : Option Addr) (cap : Nat) (w : World) (K : Kept w sb mb c keep done l a cap) (hc : 1 ≤ c) (hn : 1 ≤ n) (hn2 : n ≤ 9223372036854775807) (hs : s.size ≤ 4000)
    (hp : IsPos l n 0) (hfound : foundAt l n 0 = false) (hk : keep ≤ l.length) :
    Calls Try.prog 12 #[.pointer (some ⟨sb, 0, none⟩), .agg #[.int .i64 c, .int .i64 n, .string s], f] w fun e w' => e = .returned (.tuple #[zeroRq, .bool false, .int .i64 10]) ∧ Below w.heap.size w w' := by
  have hc0 : w.cell? ⟨sb, 0, none⟩ = some (.int .i64 keep) := by rw [cell_of_row w sb 0 _ _ _ K.row]; rfl
  have hc2 : w.cell? ⟨sb, 2, none⟩ = some (.map (some mb)) := by rw [cell_of_row w sb 2 _ _ _ K.row]; rfl
  have hlt := World.block_lt_of_cell? w _ hc2
  have hmn := fun W => run_eql_map_nil (P := Try.prog) W 69 3 47 (some mb) Try.underlying69
  go_enter Try.func12, Try.ntmps12
  go_wp2_with fail
  refine (of_any sb mb c a l.length cap _ (((below2 w _ _).cell hlt).trans hc2) (K.look _ ((below2 w _ _).block mb K.mlt))).mono ?_
  rintro e w3 ⟨rfl, rfl⟩
  go_wp2_with fail
  refine (find_any _ l n a cap _ (cell_new3 _ _ _ _ _) (K.reads.below (below3 w _ _ _)) K.asc hn hn2 K.few).mono ?_
  rintro e w4 ⟨i', hp', rfl, hb4⟩
  obtain rfl := hp'.unique hp
  have hb40 := (below3 w _ _ _).trans (hb4.mono (below3 w _ _ _).size)
  obtain ⟨⟨x0, x1, x2⟩, ⟨y0, y1, y2⟩, yf, hz4⟩ := own3 hb4
  have e0 : w4.cell? ⟨sb, 0, none⟩ = some (.int .i64 keep) := (hb40.cell hlt).trans hc0
  have e2 : w4.cell? ⟨sb, 2, none⟩ = some (.map (some mb)) := (hb40.cell hlt).trans hc2
  have hlk := fun nq => K.look (w4.drewN nq) (hb40.block mb K.mlt)
  have HB40 := hid hb40
  clear hb40 hb4
  go_wp2_with fail
  go_quiet (fail)
  clear hlk
  have hfew := K.few
  go_wp2_with fail
  refine bodyPost_ret (v := .tuple #[.agg #[.int .i64 0, .int .i64 0, .string ⟨#[]⟩], .bool false, .int .i64 10]) (by simp [results, Try.results12, go_sem, y0, y1, y2]) rfl ⟨rfl, ?_⟩
  exact below_three HB40.out _ _ _ _

set_option maxRecDepth 100000 in
set_option maxHeartbeats 1000000 in
theorem handle_idle (sb mb : Nat) (c n keep done : Int) (s : ByteArray) (l : List Rq) (a : Option Addr) (cap i : Nat) (w : World) (K : Kept w sb mb c keep done l a cap) (hc : 1 ≤ c) (hn : 1 ≤ n) (hn2 : n ≤ 9223372036854775807) (hs : s.size ≤ 4000)
    (hp : IsPos l n i) (hfound : foundAt l n i = false) (hk : i = 0 → l.length < keep) :
    Calls Try.prog 12 #[.pointer (some ⟨sb, 0, none⟩), .agg #[.int .i64 c, .int .i64 n, .string s], .nilFunc] w fun e w' => e = .returned (.tuple #[zeroRq, .bool false, .int .i64 6]) ∧ Below w.heap.size w w' := by
  have hc0 : w.cell? ⟨sb, 0, none⟩ = some (.int .i64 keep) := by rw [cell_of_row w sb 0 _ _ _ K.row]; rfl
  have hc2 : w.cell? ⟨sb, 2, none⟩ = some (.map (some mb)) := by rw [cell_of_row w sb 2 _ _ _ K.row]; rfl
  have hlt := World.block_lt_of_cell? w _ hc2
  have hmn := fun W => run_eql_map_nil (P := Try.prog) W 69 3 47 (some mb) Try.underlying69
  go_enter Try.func12, Try.ntmps12
  go_wp2_with fail
  refine (of_any sb mb c a l.length cap _ (((below2 w _ _).cell hlt).trans hc2) (K.look _ ((below2 w _ _).block mb K.mlt))).mono ?_
  rintro e w3 ⟨rfl, rfl⟩
  go_wp2_with fail
  refine (find_any _ l n a cap _ (cell_new3 _ _ _ _ _) (K.reads.below (below3 w _ _ _)) K.asc hn hn2 K.few).mono ?_
  rintro e w4 ⟨i', hp', rfl, hb4⟩
  obtain rfl := hp'.unique hp
  have hb40 := (below3 w _ _ _).trans (hb4.mono (below3 w _ _ _).size)
  obtain ⟨⟨x0, x1, x2⟩, ⟨y0, y1, y2⟩, yf, hz4⟩ := own3 hb4
  have e0 : w4.cell? ⟨sb, 0, none⟩ = some (.int .i64 keep) := (hb40.cell hlt).trans hc0
  have e2 : w4.cell? ⟨sb, 2, none⟩ = some (.map (some mb)) := (hb40.cell hlt).trans hc2
  have hlk := fun nq => K.look (w4.drewN nq) (hb40.block mb K.mlt)
  have HB40 := hid hb40
  clear hb40 hb4
  go_wp2_with fail
  go_quiet (fail)
  clear hlk
  have hfew := K.few
  have hfn := func_nil
  rcases Nat.eq_zero_or_pos i' with h0 | h0
  · have hk' := hk h0
    subst h0
    clear hk
    go_wp2_with fail
    refine bodyPost_ret (v := .tuple #[.agg #[.int .i64 0, .int .i64 0, .string ⟨#[]⟩], .bool false, .int .i64 6]) (by simp [results, Try.results12, go_sem, y0, y1, y2]) rfl ⟨rfl, ?_⟩
    exact below_three HB40.out _ _ _ _
  · have hi0 : ((i' : Int) == 0) = false := by rw [beq_eq_false_iff_ne]; omega
    clear hk
    go_wp2_with fail
    refine bodyPost_ret (v := .tuple #[.agg #[.int .i64 0, .int .i64 0, .string ⟨#[]⟩], .bool false, .int .i64 6]) (by simp [results, Try.results12, go_sem, y0, y1, y2]) rfl ⟨rfl, ?_⟩
    exact below_three HB40.out _ _ _ _

end Go.Proofs.Ytaglidlibocgpaa
