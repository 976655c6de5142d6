/-
  slices.Insert of one call at a place: in each of its three ways it returns a row with the call at that place.
-/
import Derived.Test.YtaglidlibocgpaaG
import Derived.Test.YtaglidlibocgpaaH
import Derived.Deep.RegionLaw
import Derived.Laws.Externs
namespace Go.Proofs.Ytaglidlibocgpaa
open Go.RowKit

theorem Try.size37 : (Try.prog.info? 37).map (·.size) = some 3 := by kernel_rfl

theorem rqs_insert (l : List Rq) (r : Rq) (i : Nat) : rqs (l.take i ++ r :: l.drop i) = rqs (l.take i) ++ (rqs [r] ++ rqs (l.drop i)) := by
  rw [rqs_append, rqs_cons]; simp [rqs]
theorem take_exact {α : Type} (a b c d : List α) (n : Nat) (h : a.length + (b.length + c.length) = n) : (a ++ (b ++ (c ++ d))).take n = a ++ (b ++ c) := by
  rw [← List.append_assoc, ← List.append_assoc, List.append_assoc a b c, ← List.append_assoc a b c, List.append_assoc (a ++ b) c d]
  rw [← List.append_assoc (a ++ b) c d, List.take_append_of_le_length (by simp; omega), List.take_of_length_le (by simp; omega), List.append_assoc]
theorem inside_list (cur : List Value) (l : List Rq) (r : Rq) (i cap : Nat) (hcur : cur.take (l.length * 3) = rqs l) (hcs : cur.length = cap * 3) (hi : i < l.length) (hroom : l.length + 1 ≤ cap) :
    (splice (splice cur ((i + 1) * 3) (rqs (l.drop i))) (i * 3) (rqs [r])).take ((l.length + 1) * 3) = rqs (l.take i ++ r :: l.drop i) := by
  have hd : (rqs (l.drop i)).length = (l.length - i) * 3 := by rw [rqs_length, List.length_drop]
  have hr : (rqs [r]).length = 3 := rfl
  have e1 : (splice cur ((i + 1) * 3) (rqs (l.drop i))).take (i * 3) = rqs (l.take i) := by
    unfold splice
    rw [List.take_append_of_le_length (by simp; omega), List.take_take, rqs_take, ← hcur, List.take_take]
    congr 1
    simp only [Nat.min_def]; split <;> split <;> omega
  have e2 : (splice cur ((i + 1) * 3) (rqs (l.drop i))).drop (i * 3 + 3) = rqs (l.drop i) ++ cur.drop ((i + 1) * 3 + (rqs (l.drop i)).length) := by
    unfold splice
    rw [List.drop_append_of_le_length (by simp; omega), show i * 3 + 3 = (i + 1) * 3 by omega]
    have : (cur.take ((i + 1) * 3)).drop ((i + 1) * 3) = [] := List.drop_eq_nil_of_le (by simp; omega)
    rw [this, List.nil_append]
  have e3 : splice (splice cur ((i + 1) * 3) (rqs (l.drop i))) (i * 3) (rqs [r]) = rqs (l.take i) ++ (rqs [r] ++ (rqs (l.drop i) ++ cur.drop ((i + 1) * 3 + (rqs (l.drop i)).length))) := by
    rw [← e1, ← e2]
    rfl
  rw [e3, rqs_insert]
  apply take_exact
  rw [hd, hr, rqs_length, List.length_take, Nat.min_eq_left (by omega)]
  omega

set_option maxRecDepth 100000 in
set_option maxHeartbeats 400000 in
/-- At the end. -/
theorem insert_end (B : Nat) (l : List Rq) (a : Option Addr) (cap vb : Nat) (r : Rq) (w : World) (hown : w.ownsRow B 37 3 (.slice a l.length cap) l.length (rqs l))
    (hv : ∀ j u, (rqs [r])[j]? = some u → w.cell? ((⟨vb, 0, none⟩ : Addr).add j) = some u) (hB : B ≤ w.heap.size) (hl : l.length ≤ 1000) :
    Calls Try.prog 27 #[.slice a l.length cap, .int .i64 l.length, .slice (some ⟨vb, 0, none⟩) 1 1] w (Made B (l ++ [r]) w) := by
  obtain ⟨i0, hi, hz0, hz1, hz2⟩ := info_parts Try.info37
  obtain ⟨_, _, e, hnc, hm⟩ := (Reads.of_owns hown).shape
  cases e
  unfold maxLen at hm
  have HV := hid hv
  have HO := hid hown
  clear hv hown
  go_enter Try.func27, Try.ntmps27
  go_wp2_with (at_builtin; refine wpList_append_own _ rfl (.tmp 23) (.tmp 24) 47 rfl B 37 i0 _ 3 32 Try.underlying47 hi hz0 hz1 hz2 rfl (by decide) (.slice a l.length cap) l.length (rqs l) rfl HO.out ⟨vb, 0, none⟩ 1 1 (rqs [r]) rfl rfl HV.out (rqs_one _) (by unfold maxLen; omega) (by omega) hB ?_; intro v' w1 hown1 hgrow hnil)
  all_goals
    go_ret
    rw [← rqs_append] at hown1
    obtain ⟨g, cap', rfl, hg⟩ := owns_some hown1 (fun e => by have := hnil.1 e; simp at this)
    exact ⟨g, cap', by simp, by simpa using hown1, (Below.refl _ _).grown hgrow hB (owns_block HO.out)⟩

set_option maxRecDepth 100000 in
set_option maxHeartbeats 400000 in
/-- Inside, where there is room. -/
theorem insert_room (B : Nat) (l : List Rq) (g cap vb i : Nat) (cur : List Value) (r : Rq) (w : World) (hg : w.heap[g]? = some (.cells cur.toArray 37 (0, 0))) (hcur : cur.take (l.length * 3) = rqs l) (hcs : cur.length = cap * 3) (hBg : B ≤ g)
    (hv : w.heap[vb]? = some (.cells (rqs [r]).toArray 37 (0, 0))) (hvg : vb ≠ g) (hl : l.length ≤ 1000) (hi : i < l.length) (hroom : l.length + 1 ≤ cap) (hm : cap ≤ 9223372036854775807) :
    Calls Try.prog 27 #[.slice (some ⟨g, 0, none⟩) l.length cap, .int .i64 i, .slice (some ⟨vb, 0, none⟩) 1 1] w (Made B (l.take i ++ r :: l.drop i) w) := by
  have hne : ¬ ((i : Int) = (l.length : Int)) := by omega
  have hcl : (cur.toArray).size = cap * 3 := by simpa using hcs
  have hov : ∀ lb cb, (callFunc 39 #[.slice (some ⟨vb, 0, none⟩) 1 1, .slice (some ⟨g, (i + 1) * 3, none⟩) lb cb]).run Try.prog w = .ok (.value (.bool false)) w := fun lb cb => by
    rw [run_callFunc_extern Try.func39 (by kernel_rfl) (by kernel_rfl) (by kernel_rfl) (e := Extern.SlicesOverlaps.overlaps #[47, 47] #[4]) (by kernel_rfl),
      Lib.run_overlaps_apart w 47 4 37 Try.underlying47 3 (fun w => by kernel_rfl) ⟨vb, 0, none⟩ ⟨g, (i + 1) * 3, none⟩ 1 1 lb cb hvg 37 37 3 (cap * 3) (by simp [World.shape?, hv, rqs, Rq.cells]) (by simp [World.shape?, hg, hcs]) (by omega) (by simp [World.frozen?, hv]) (by simp [World.frozen?, hv])]
    rfl
  have HG := hid hg
  have HV := hid hv
  have HCUR := hid hcur
  have HCS := hid hcs
  have hw1 : IntKind.i64.wrap ((i : Int) + 1) = (i : Int) + 1 := by rw [IntKind.wrap_i64]; omega
  have hb1 : (0 : Int) ≤ (i : Int) + 1 := by omega
  have htn : ((i : Int) + 1).toNat = i + 1 := by omega
  have hb2 : ¬ (cap = i + 1) := by omega
  have hb3 : (i : Int) ≤ (l.length : Int) := by omega
  have hb5 : (i : Int) ≤ (l.length : Int) + 1 := by omega
  have hb4 : ¬ (cap = i) := by omega
  have hdl : (rqs (l.drop i)).length = (l.length - i) * 3 := by rw [rqs_length, List.length_drop]
  have hsrc : ∀ (W : World), W.heap[g]? = w.heap[g]? → ∀ j v, (rqs (l.drop i))[j]? = some v → W.cell? ((⟨g, i * 3, none⟩ : Addr).add j) = some v := by
    intro W hW j v hj
    rw [rqs_drop, List.getElem?_drop, ← hcur, List.getElem?_take] at hj
    split at hj
    · rw [Addr.add_lit, cell_of_row W g _ cur.toArray 37 (0, 0) (hW.trans hg)]
      simpa using hj
    · cases hj
  have HS := hid hsrc
  have HD := hid hdl
  have hsrc2 : ∀ (W : World), W.heap[vb]? = w.heap[vb]? → ∀ j v, (rqs [r])[j]? = some v → W.cell? ((⟨vb, 0, none⟩ : Addr).add j) = some v := by
    intro W hW j v hj
    rw [Addr.add_lit, Nat.zero_add, cell_of_row W vb _ _ 37 (0, 0) (hW.trans hv)]
    simpa using hj
  have HS2 := hid hsrc2
  clear hg hv hcur hcs hcl hdl hsrc hsrc2
  go_enter Try.func27, Try.ntmps27
  go_wp2_with (simp only [hov])
  go_region_law (refine step_copy_rowN rfl (.tmp 73) (.tmp 76) 47 47 rfl 37 3 Try.underlying47 Try.size37 g ((i + 1) * 3) (l.length - i) (cap - (i + 1)) ⟨g, i * 3, none⟩ (l.length + 1 - i) (cap - i) (by simp [Act.eval, Act.put]) (by simp [Act.eval, Act.put]) cur 37 HG.out (rqs (l.drop i)) (l.length - i) (by simp only [Nat.min_def]; split <;> omega) HD.out (HS.out _ rfl) (by rw [HD.out, HCS.out]; omega) (rqs_one _) B w (Below.refl _ _).drew hBg ?_; intro w1 HG1 HO1 hbel)
  clear hov hw1 hb1 htn hb2 hb3 hb5
  have hl1 : (splice cur ((i + 1) * 3) (rqs (l.drop i))).length = cap * 3 := by rw [length_splice _ _ _ (by rw [HD.out, HCS.out]; omega), HCS.out]
  have hl2 : i * 3 + (rqs [r]).length ≤ (splice cur ((i + 1) * 3) (rqs (l.drop i))).length := by rw [hl1]; simp [rqs, Rq.cells]; omega
  have HL1 := hid hl1
  have HL2 := hid hl2
  have HV1 := hid (HS2.out w1 (HO1.out vb hvg))
  have hr3 : (rqs [r]).length = 1 * 3 := rfl
  have HR3 := hid hr3
  have hk1 : 1 = Nat.min 1 (l.length + 1 - i) := by simp only [Nat.min_def]; split <;> omega
  have HK1 := hid hk1
  clear hl1 hl2 hr3 hk1
  go_wp2_with (with_reducible refine wpList_copy_rowN rfl (.tmp 80) (.tmp 81) 47 47 rfl 37 3 Try.underlying47 Try.size37 g (i * 3) (l.length + 1 - i) (cap - i) ⟨vb, 0, none⟩ 1 1 rfl rfl (splice cur ((i + 1) * 3) (rqs (l.drop i))) 37 HG1.out (rqs [r]) 1 HK1.out HR3.out HV1.out HL2.out (rqs_one _) B w hbel hBg ?_; intro w2 HG2 HO2 hb2)
  go_ret
  have hfin := inside_list cur l r i cap HCUR.out HCS.out hi hroom
  have hlen : (l.take i ++ r :: l.drop i).length = l.length + 1 := by simp; omega
  refine ⟨g, cap, by rw [hlen]; rfl, ⟨by rw [rqs_length], .inr ⟨g, cap, _, rfl, hBg, HG2.out, by omega, hm, ?_, ?_⟩⟩, hb2⟩
  · simp only [List.size_toArray]
    rw [length_splice _ _ _ HL2.out, HL1.out]
  · rw [hlen]; exact hfin

/-- The row that a growing append of zeros leaves, filled. -/
theorem grown_list (Z : List Value) (l : List Rq) (r : Rq) (i : Nat) (hi : i < l.length) :
    (splice (splice (rqs (l.take i) ++ Z) (i * 3) (rqs [r])) ((i + 1) * 3) (rqs (l.drop i))).take ((l.length + 1) * 3) = rqs (l.take i ++ r :: l.drop i) := by
  have hd : (rqs (l.drop i)).length = (l.length - i) * 3 := by rw [rqs_length, List.length_drop]
  have hr : (rqs [r]).length = 3 := rfl
  have ht : (rqs (l.take i)).length = i * 3 := by rw [rqs_length, List.length_take, Nat.min_eq_left (by omega)]
  have e0 : splice (rqs (l.take i) ++ Z) (i * 3) (rqs [r]) = rqs (l.take i) ++ (rqs [r] ++ Z.drop 3) := by
    unfold splice
    rw [← ht, List.take_left, hr, List.drop_append, List.drop_of_length_le (by omega), List.nil_append, show (rqs (l.take i)).length + 3 - (rqs (l.take i)).length = 3 by omega]
  have e1 : splice (splice (rqs (l.take i) ++ Z) (i * 3) (rqs [r])) ((i + 1) * 3) (rqs (l.drop i)) = rqs (l.take i) ++ (rqs [r] ++ (rqs (l.drop i) ++ (Z.drop 3).drop (rqs (l.drop i)).length)) := by
    rw [e0]
    unfold splice
    have e2 : (rqs (l.take i) ++ (rqs [r] ++ Z.drop 3)).take ((i + 1) * 3) = rqs (l.take i) ++ rqs [r] := by
      rw [← List.append_assoc, List.take_append_of_le_length (by rw [List.length_append, ht, hr]; omega)]
      exact List.take_of_length_le (by rw [List.length_append, ht, hr]; omega)
    have e3 : (rqs (l.take i) ++ (rqs [r] ++ Z.drop 3)).drop ((i + 1) * 3 + (rqs (l.drop i)).length) = (Z.drop 3).drop (rqs (l.drop i)).length := by
      rw [← List.append_assoc, List.drop_append, List.drop_of_length_le (by rw [List.length_append, ht, hr]; omega), List.nil_append, List.length_append, ht, hr]
      congr 1
      omega
    rw [e2, e3, List.append_assoc]
  rw [e1, rqs_insert]
  apply take_exact
  rw [hd, hr, ht]
  omega

theorem zeros37 (n : Nat) : (Builtin.zeroCells (Value.agg #[.int .i64 0, .int .i64 0, .string ⟨#[]⟩]).cells n).size = n * 3 := by
  rw [size_zeroCells]; rfl

set_option maxRecDepth 100000 in
set_option maxHeartbeats 400000 in
/-- Inside, where there is no room. -/
theorem insert_grow (B : Nat) (l : List Rq) (g cap vb i : Nat) (r : Rq) (w : World) (hown : w.ownsRow B 37 3 (.slice (some ⟨g, 0, none⟩) l.length cap) l.length (rqs l))
    (hv : w.heap[vb]? = some (.cells (rqs [r]).toArray 37 (0, 0))) (hB : B ≤ w.heap.size) (hl : l.length ≤ 1000) (hi : i < l.length) (hroom : cap < l.length + 1) :
    Calls Try.prog 27 #[.slice (some ⟨g, 0, none⟩) l.length cap, .int .i64 i, .slice (some ⟨vb, 0, none⟩) 1 1] w (Made B (l.take i ++ r :: l.drop i) w) := by
  obtain ⟨i0, hi0, hz0, hz1, hz2⟩ := info_parts Try.info37
  have hne : ¬ ((i : Int) = (l.length : Int)) := by omega
  obtain ⟨_, _, e, hnc, hm⟩ := (Reads.of_owns hown).shape
  cases e
  have hcell : ∀ j u, (rqs l)[j]? = some u → w.cell? ⟨g, j, none⟩ = some u := fun j u hj => by
    have := (Reads.of_owns hown).cell hj
    rwa [Nat.zero_add] at this
  have hold : (Builtin.firstCells i0.size i (.slice (some ⟨g, 0, none⟩) i cap)).run Try.prog w.drew = .ok (rqs (l.take i)).toArray w.drew := by
    rw [hz1]
    refine run_firstCells_some w.drew 3 i ⟨g, 0, none⟩ i cap (rqs (l.take i)) (by rw [rqs_length, List.length_take, Nat.min_eq_left (by omega)]) (fun j v hj => ?_)
    rw [Addr.add_lit, Nat.zero_add]
    rw [rqs_take, List.getElem?_take] at hj
    split at hj
    · exact hcell j v hj
    · cases hj
  have hkk : (l.length : Int) + 1 - (i : Int) = ((l.length + 1 - i : Nat) : Int) := by omega
  have hik : i + (l.length + 1 - i) = l.length + 1 := by omega
  have hrz := fun ty => Lib.run_append_grow_zeros w 47 3 ty 37 i0 _ .i64 .i64 Try.underlying47 Try.underlying3 hi0 hz0 (some ⟨g, 0, none⟩) i cap (rqs (l.take i)) hold (l.length + 1 - i) (by omega) (by omega) (by omega) (by omega) (by rw [hz2]; omega)
    (by rw [hz2, hik]; exact growslice_fits (by omega) (by omega))
  rw [hik, ← hkk] at hrz
  clear hold hkk
  obtain ⟨G, hG⟩ : ∃ G, G = grownCap w (l.length + 1) cap 37 := ⟨_, rfl⟩
  rw [← hG] at hrz
  have hG1 : l.length + 1 ≤ G := by rw [hG]; exact grownCap_ge w _ _ _
  have hG2 : G ≤ 9223372036854775807 := by
    have := grownCap_le_maxLen w (l.length + 1) cap 37 (by unfold maxLen; omega)
    rw [← hG] at this
    unfold maxLen at this
    omega
  obtain ⟨Z, hZ⟩ : ∃ Z : List Value, Z = (Builtin.zeroCells (Value.agg #[.int .i64 0, .int .i64 0, .string ⟨#[]⟩]).cells (l.length + 1 - i) ++ Builtin.zeroCells (Value.agg #[.int .i64 0, .int .i64 0, .string ⟨#[]⟩]).cells (G - (l.length + 1))).toList := ⟨_, rfl⟩
  have hZl : Z.length = (G - i) * 3 := by
    rw [hZ, Array.length_toList, Array.size_append, zeros37, zeros37]
    omega
  obtain ⟨ROW, hROW⟩ : ∃ ROW : List Value, ROW = rqs (l.take i) ++ Z := ⟨_, rfl⟩
  have hRl : ROW.length = G * 3 := by
    rw [hROW, List.length_append, rqs_length, List.length_take, Nat.min_eq_left (by omega), hZl]
    omega
  have hra : (rqs (l.take i)).toArray ++ Builtin.zeroCells (Value.agg #[.int .i64 0, .int .i64 0, .string ⟨#[]⟩]).cells (l.length + 1 - i) ++ Builtin.zeroCells (Value.agg #[.int .i64 0, .int .i64 0, .string ⟨#[]⟩]).cells (G - (l.length + 1)) = ROW.toArray := by
    rw [hROW, hZ, Array.append_assoc]
    simp
  rw [hra] at hrz
  have hfin : (splice (splice ROW (i * 3) (rqs [r])) ((i + 1) * 3) (rqs (l.drop i))).take ((l.length + 1) * 3) = rqs (l.take i ++ r :: l.drop i) := by
    rw [hROW]; exact grown_list Z l r i hi
  obtain ⟨W1, hW1⟩ : ∃ W1, W1 = w.drew.alloc (.cells ROW.toArray 37) := ⟨_, rfl⟩
  rw [← hW1] at hrz
  have hglt : g < w.heap.size := World.block_lt_of_cell? w ⟨g, 0, none⟩ (hcell 0 _ (by rw [List.getElem?_eq_getElem (by rw [rqs_length]; omega)]))
  have hvlt : vb < w.heap.size := (Array.getElem?_eq_some_iff.1 hv).1
  have hW0 : ∀ k, k < w.heap.size → W1.heap[k]? = w.heap[k]? := fun k hk => by rw [hW1]; exact Below.heap_alloc w.drew _ k hk
  have hbW : Below B w W1 := by rw [hW1]; exact ((Below.refl B w).drew).alloc hB _
  obtain ⟨N, hN⟩ : ∃ N, N = w.heap.size := ⟨_, rfl⟩
  have hWN : W1.heap[N]? = some (.cells ROW.toArray 37 (0, 0)) := by rw [hW1, hN]; exact heap_alloc_new w.drew _
  rw [← hN] at hglt hvlt hB hrz hW0
  have hgN : g ≠ N := by omega
  have hvN : vb ≠ N := by omega
  have hl2 : i * 3 + (rqs [r]).length ≤ ROW.length := by rw [hRl]; simp [rqs, Rq.cells]; omega
  have hd : (rqs (l.drop i)).length = (l.length - i) * 3 := by rw [rqs_length, List.length_drop]
  have hl3 : (splice ROW (i * 3) (rqs [r])).length = G * 3 := by rw [length_splice _ _ _ hl2, hRl]
  have hl4 : (i + 1) * 3 + (rqs (l.drop i)).length ≤ (splice ROW (i * 3) (rqs [r])).length := by rw [hl3, hd]; omega
  have hs2 : ∀ j v, (rqs [r])[j]? = some v → W1.cell? ((⟨vb, 0, none⟩ : Addr).add j) = some v := by
    intro j v hj
    rw [Addr.add_lit, Nat.zero_add, cell_of_row W1 vb _ _ 37 (0, 0) ((hW0 vb hvlt).trans hv)]
    simpa using hj
  have hs3 : ∀ (W : World), W.heap[g]? = W1.heap[g]? → ∀ j v, (rqs (l.drop i))[j]? = some v → W.cell? ((⟨g, i * 3, none⟩ : Addr).add j) = some v := by
    intro W hW j v hj
    rw [rqs_drop, List.getElem?_drop] at hj
    have := hcell (i * 3 + j) v hj
    rw [Addr.add_lit, World.cell?_of_block (w := w) (a := ⟨g, i * 3 + j, none⟩) (hW.trans (hW0 g hglt))]
    exact this
  have hr3 : (rqs [r]).length = 1 * 3 := rfl
  have hk1 : 1 = Nat.min 1 (l.length + 1 - i) := by simp only [Nat.min_def]; split <;> omega
  have hw1 : IntKind.i64.wrap ((i : Int) + 1) = (i : Int) + 1 := by rw [IntKind.wrap_i64]; omega
  have hb1 : (0 : Int) ≤ (i : Int) + 1 := by omega
  have htn : ((i : Int) + 1).toNat = i + 1 := by omega
  have hb2 : ¬ (G = i + 1) := by omega
  have hb3 : (i : Int) ≤ (l.length : Int) := by omega
  have hb4 : ¬ (G = i) := by omega
  have hb5 : ¬ (cap = i) := by omega
  have HFIN := hid hfin
  have HRL := hid hRl
  have HL2 := hid hl2
  have HD := hid hd
  have HL3 := hid hl3
  have HL4 := hid hl4
  have HS2 := hid hs2
  have HS3 := hid hs3
  have HR3 := hid hr3
  have HK1 := hid hk1
  have HW := hid hWN
  have HRZ := hid hrz
  have HO := hid hown
  clear hN hW1 hra hROW hRl hZ hZl hG hz0 hz1 hz2 hl2 hd hl3 hl4 hs2 hs3 hr3 hk1 hfin hcell hWN hW0 hv hrz hown hik
  go_enter Try.func27, Try.ntmps27
  go_wp2_with (first
    | (at_builtin; refine wpList_append_eq _ rfl (.tmp 34) (.tmp 39) 47 3 rfl _ _ rfl rfl HRZ.out ?_)
    | (with_reducible refine wpList_copy_rowN rfl (.tmp 43) (.tmp 44) 47 47 rfl 37 3 Try.underlying47 Try.size37 N (i * 3) (l.length + 1 - i) (G - i) ⟨vb, 0, none⟩ 1 1 rfl rfl ROW 37 HW.out (rqs [r]) 1 HK1.out HR3.out HS2.out HL2.out (rqs_one _) B w hbW hB ?_; intro w1 HG1 HO1 hbel))
  have HS4 := hid (HS3.out w1.drew (HO1.out g hgN))
  go_region_law (refine step_copy_rowN rfl (.tmp 50) (.tmp 53) 47 47 rfl 37 3 Try.underlying47 Try.size37 N ((i + 1) * 3) (l.length - i) (G - (i + 1)) ⟨g, i * 3, none⟩ (l.length - i) (cap - i) (by simp [Act.eval, Act.put]) (by simp [Act.eval, Act.put]) (splice ROW (i * 3) (rqs [r])) 37 HG1.out (rqs (l.drop i)) (l.length - i) (by simp only [Nat.min_def]; split <;> omega) HD.out HS4.out HL4.out (rqs_one _) B w hbel.drew hB ?_; intro w2 HG2 HO2 hbel2)
  go_wp2_with fail
  go_ret
  have hlen : (l.take i ++ r :: l.drop i).length = l.length + 1 := by simp; omega
  refine ⟨N, G, by rw [hlen]; rfl, ⟨by rw [rqs_length], .inr ⟨N, G, _, rfl, hB, HG2.out, by omega, by unfold maxLen; omega, ?_, ?_⟩⟩, hbel2⟩
  · simp only [List.size_toArray]
    rw [length_splice _ _ _ HL4.out, HL3.out]
  · rw [hlen]; exact HFIN.out

/-- slices.Insert of one call at a place of a list that is owned. -/
theorem insert_any (B : Nat) (l : List Rq) (a : Option Addr) (cap vb i : Nat) (r : Rq) (w : World) (hown : w.ownsRow B 37 3 (.slice a l.length cap) l.length (rqs l))
    (hv : w.heap[vb]? = some (.cells (rqs [r]).toArray 37 (0, 0))) (hvg : (Value.slice a l.length cap).ownBlock ≠ some vb) (hB : B ≤ w.heap.size) (hl : l.length ≤ 1000) (hi : i ≤ l.length) :
    Calls Try.prog 27 #[.slice a l.length cap, .int .i64 i, .slice (some ⟨vb, 0, none⟩) 1 1] w (Made B (l.take i ++ r :: l.drop i) w) := by
  by_cases hil : i = l.length
  · subst hil
    rw [List.take_length, List.drop_length]
    refine insert_end B l a cap vb r w hown ?_ hB hl
    intro j v hj
    rw [Addr.add_lit, Nat.zero_add, cell_of_row w vb _ _ 37 (0, 0) hv]
    simpa using hj
  · have hlt : i < l.length := by omega
    rcases hown.2 with ⟨e, h0⟩ | ⟨g, cap', cur, e, hb, hg, hc, hm, hs, ht⟩
    · omega
    · simp only [Value.slice.injEq] at e
      obtain ⟨rfl, _, rfl⟩ := e
      have hvg' : vb ≠ g := fun e => hvg (by rw [e]; rfl)
      by_cases hroom : l.length + 1 ≤ cap
      · exact insert_room B l g cap vb i cur.toList r w (by simpa using hg) ht (by simpa using hs) hb hv hvg' hl hlt hroom (by unfold maxLen at hm; omega)
      · exact insert_grow B l g cap vb i r w hown hv hB hl hlt (by omega)

/-- A new row that holds l with r at place i. -/
def InsMade (B : Nat) (l : List Rq) (i : Nat) (r : Rq) (w : World) (e : Ending) (w' : World) : Prop :=
  ∃ g cap, e = .returned (.slice (some ⟨g, 0, none⟩) (l.length + 1) cap) ∧ w'.ownsRow B 37 3 (.slice (some ⟨g, 0, none⟩) (l.length + 1) cap) (l.length + 1) (rqs (l.take i ++ r :: l.drop i)) ∧ Below B w w'

theorem insert_at (B : Nat) (l : List Rq) (a : Option Addr) (cap vb i : Nat) (r : Rq) (w : World) (hown : w.ownsRow B 37 3 (.slice a l.length cap) l.length (rqs l))
    (hv : w.heap[vb]? = some (.cells (rqs [r]).toArray 37 (0, 0))) (hvg : (Value.slice a l.length cap).ownBlock ≠ some vb) (hB : B ≤ w.heap.size) (hl : l.length ≤ 1000) (hi : i ≤ l.length) :
    Calls Try.prog 27 #[.slice a l.length cap, .int .i64 i, .slice (some ⟨vb, 0, none⟩) 1 1] w (InsMade B l i r w) := by
  refine (insert_any B l a cap vb i r w hown hv hvg hB hl hi).mono ?_
  rintro e w' ⟨g, cg, he, h1, h2⟩
  have hlen : (l.take i ++ r :: l.drop i).length = l.length + 1 := by simp; omega
  rw [hlen] at he h1
  exact ⟨g, cg, he, h1, h2⟩

end Go.Proofs.Ytaglidlibocgpaa
