/-
  (*Server).Handle where the work is done: the reply, and the server's memory behind it.
-/
import Derived.Test.YtaglidlibocgpaaJ
import Derived.Deep.RegionWith
import Derived.Deep.RegionHeld3
import Derived.Deep.DeepCutAuto
import Derived.Deep.CutBlock
import Derived.StillTailTactics
namespace Go.Proofs.Ytaglidlibocgpaa
open Go.RowKit

/-- A reply's text that is too long is empty. -/
def clipS (t : ByteArray) : ByteArray := if 4000 < t.size then ⟨#[]⟩ else t

theorem owns_base {w : World} {B B' e size n : Nat} {v : Value} {xs : List Value} (h : w.ownsRow B' e size v n xs) (hB : B ≤ B') : w.ownsRow B e size v n xs := by
  refine ⟨h.1, ?_⟩
  rcases h.2 with h | ⟨g, cap, cur, rfl, hb, r⟩
  · exact .inl h
  · exact .inr ⟨g, cap, cur, rfl, Nat.le_trans hB hb, r⟩

/-- The kept replies lie apart from the server's own three cells: they stay as they are where only those are written. -/
theorem reads_apart {w w' : World} {sb m : Nat} {x y : Value} {l : List Rq} {a : Option Addr} {cap t : Nat} (h : Reads w (.slice a l.length cap) l.length 3 (rqs l)) (hsb : w.heap[sb]? = some (.cells #[x, y, .map (some m)] t (0, 0)))
    (hw : ∀ k, k ≠ sb → k < w.heap.size → w'.heap[k]? = w.heap[k]?) : Reads w' (.slice a l.length cap) l.length 3 (rqs l) := by
  cases l with
  | nil =>
    obtain ⟨hl, a', cap', e, hc, hm, h0, hx⟩ := h
    exact ⟨hl, a', cap', e, hc, hm, h0, fun g hg => ⟨(hx g hg).1, fun j u hj => by simp [rqs] at hj⟩⟩
  | cons r l =>
    refine h.same fun b hb hlt => hw b (fun e => ?_) hlt
    subst e
    obtain ⟨b', o, rfl⟩ := h.addr (by simp)
    simp only [Value.ownBlock, Option.some.injEq] at hb
    subst hb
    have h2 := h.cell (j := 2) (u := .string r.text) rfl
    rw [cell_of_row w b' _ _ _ _ hsb] at h2
    cases o with
    | zero => simp at h2
    | succ o => rw [Array.getElem?_eq_none (by simp)] at h2; cases h2

/-- A slice of a new row of n calls. -/
def Ins (B n : Nat) (l : List Rq) (w : World) (v : Value) (w' : World) : Prop :=
  ∃ g cap, v = .slice (some ⟨g, 0, none⟩) n cap ∧ w'.ownsRow B 37 3 (.slice (some ⟨g, 0, none⟩) n cap) n (rqs l) ∧ Below B w w'

/-- What Handle leaves where the work is done: the reply, one more in the count, and the client's kept replies. -/
def Served (sb mb : Nat) (c n keep done : Int) (T : ByteArray) (l : List Rq) (i : Nat) (fm : Int → Option Value) (w : World) (e : Ending) (w' : World) : Prop :=
  e = .returned (.tuple #[.agg #[.int .i64 c, .int .i64 n, .string T], .bool true, .int .i64 0]) ∧
  ∃ g cg, w'.heap[sb]? = some (.cells #[.int .i64 keep, .int .i64 (done + 1), .map (some mb)] 71 (0, 0)) ∧
    MapIs w' mb (fun x => if x = c then some (.slice (some ⟨g, (l.length + 1 - keep.toNat) * 3, none⟩) (l.length + 1 - (l.length + 1 - keep.toNat)) cg) else fm x) ∧
    Reads w' (.slice (some ⟨g, (l.length + 1 - keep.toNat) * 3, none⟩) (l.length + 1 - (l.length + 1 - keep.toNat)) cg) (l.length + 1 - (l.length + 1 - keep.toNat)) 3 (rqs ((l.take i ++ ⟨c, n, T⟩ :: l.drop i).drop (l.length + 1 - keep.toNat))) ∧
    w.heap.size ≤ g ∧ g < w'.heap.size ∧ Upd (fun k => k = sb ∨ k = mb) w w'

theorem Reads.cut {w : World} {g n cap d : Nat} {L : List Rq} (h : Reads w (.slice (some ⟨g, 0, none⟩) n cap) n 3 (rqs L)) (hd : d ≤ n) : Reads w (.slice (some ⟨g, d * 3, none⟩) (n - d) (cap - d)) (n - d) 3 (rqs (L.drop d)) := by
  obtain ⟨hl, a', cap', e, hc, hm, h0, hx⟩ := h
  cases e
  rw [rqs_length] at hl
  refine ⟨by rw [rqs_length, List.length_drop]; omega, _, _, rfl, by omega, by omega, by simp, fun g' hg' => ?_⟩
  cases hg'
  refine ⟨rfl, fun j u hj => ?_⟩
  rw [rqs_drop, List.getElem?_drop] at hj
  have := (hx _ rfl).2 _ _ hj
  rwa [Nat.zero_add] at this

theorem served_close {sb mb : Nat} {c n keep done : Int} {T : ByteArray} {l : List Rq} {i : Nat} {fm : Int → Option Value} {a : Option Addr} {cap g cg d : Nat} {w w4 w5 w6 wc w9 : World} {u0 u1 u2 : Value}
    (K : Kept w sb mb c keep done l a cap) (HB40 : Below w.heap.size w w4) (h5 : w5 = w4.setCell ⟨sb, 1, none⟩ (.int .i64 (done + 1)))
    (h6 : ∀ k, k < w5.heap.size → w6.heap[k]? = w5.heap[k]?) (hz : w5.heap.size ≤ w6.heap.size) (hz5 : w.heap.size + 1 + 1 + 1 ≤ w5.heap.size) (hu6 : Upd (fun k => k = sb) w w6) (hb7 : Below w6.heap.size w6 wc)
    (hown : wc.ownsRow w6.heap.size 37 3 (.slice (some ⟨g, 0, none⟩) (l.length + 1) cg) (l.length + 1) (rqs (l.take i ++ ⟨c, n, T⟩ :: l.drop i))) (hd : d = l.length + 1 - keep.toNat) (hmb : mb ≠ sb)
    (hmap : MapIs w9 mb fun x => if x = c then some (.slice (some ⟨g, d * 3, none⟩) (l.length + 1 - d) (cg - d)) else fm x) (hgr : wc.drew.grownBy w9 (some mb)) (hs9 : w9.heap.size = wc.drew.heap.size) :
    Served sb mb c n keep done T l i fm w (.returned (.tuple #[.agg #[.int .i64 c, .int .i64 n, .string T], .bool true, .int .i64 0]))
      (((w9.setCell ⟨w.heap.size + 1, 0, none⟩ u0).setCell ⟨w.heap.size + 1, 1, none⟩ u1).setCell ⟨w.heap.size + 1, 2, none⟩ u2) := by
  have hsb : sb < w.heap.size := (Array.getElem?_eq_some_iff.1 K.row).1
  have hml := K.mlt
  have hz6 := hu6.size
  have hz7 := hb7.size
  obtain ⟨W, hW⟩ : ∃ W, W = (((w9.setCell ⟨w.heap.size + 1, 0, none⟩ u0).setCell ⟨w.heap.size + 1, 1, none⟩ u1).setCell ⟨w.heap.size + 1, 2, none⟩ u2) := ⟨_, rfl⟩
  have hWu : Upd (fun k => k = w.heap.size + 1) w9 W := by
    rw [hW]
    exact (((Upd.refl (fun k => k = w.heap.size + 1) w9).setCell (p := ⟨w.heap.size + 1, 0, none⟩) (.inl rfl) u0).setCell (p := ⟨w.heap.size + 1, 1, none⟩) (.inl rfl) u1).setCell (p := ⟨w.heap.size + 1, 2, none⟩) (.inl rfl) u2
  have hWs : W.heap.size = wc.heap.size := by rw [hW]; simp only [World.size_setCell]; rw [hs9]; rfl
  rw [← hW]
  have hgu : Upd (fun k => k = mb) wc.drew w9 := (Upd.refl _ _).grown hgr (fun k hk => .inl (by cases hk; rfl))
  have hgo := (hown.lt g rfl)
  subst hd
  refine ⟨rfl, g, _, ?_, hmap.upd hWu (show ¬ mb = w.heap.size + 1 by omega), ?_, by omega, by omega, ?_⟩
  · rw [hWu.block sb (by rw [hs9]; show sb < wc.heap.size; omega) (by omega), hgu.block sb (by show sb < wc.heap.size; omega) (fun e => hmb e.symm)]
    show wc.heap[sb]? = _
    rw [hb7.block sb (by omega), h6 sb (by omega), h5]
    have := heap_setCell_same w4 sb 1 _ 71 (.int .i64 (done + 1)) ((HB40.block sb hsb).trans K.row)
    rw [this]
    rfl
  · have h1 := (Reads.of_owns hown).cut (d := l.length + 1 - keep.toNat) (by omega)
    have h2 := h1.drew.upd hgu (fun b hb => by simp [Value.ownBlock] at hb; subst hb; omega)
    exact h2.upd hWu (fun b hb => by simp [Value.ownBlock] at hb; subst hb; omega)
  · have u1 : Upd (fun k => k = sb ∨ k = mb) w w6 := hu6.wider (fun k hk => .inl (.inl hk))
    have u2 : Upd (fun k => k = sb ∨ k = mb) w wc.drew := (u1.trans (Upd.of_new (F := fun _ => False) hb7) (fun _ h => h.elim)).drew
    exact (u2.trans hgu (fun k hk => .inl (.inr hk))).trans hWu (fun k hk => .inr (by omega))

set_option maxRecDepth 100000 in
set_option maxHeartbeats 1000000 in
theorem handle_done (sb mb : Nat) (c n keep done : Int) (s : ByteArray) (l : List Rq) (a : Option Addr) (cap i : Nat) (w : World) (K : Kept w sb mb c keep done l a cap) (hc : 1 ≤ c) (hn : 1 ≤ n) (hn2 : n ≤ 9223372036854775807) (hs : s.size ≤ 4000)
    (hp : IsPos l n i) (hfound : foundAt l n i = false) (hk : i = 0 → l.length < keep) (hd0 : 0 ≤ done) (hd1 : done ≤ 1000000) (hk1 : 1 ≤ keep) (hk2 : keep ≤ 256) (fm : Int → Option Value) (hfm : MapIs w mb fm) (T : ByteArray) (hT : clipS (answerS s) = T) :
    Calls Try.prog 12 #[.pointer (some ⟨sb, 0, none⟩), .agg #[.int .i64 c, .int .i64 n, .string s], .func (.func 13) #[] #[]] w (Served sb mb c n keep done T l i fm w) := by
  have hc1 : w.cell? ⟨sb, 1, none⟩ = some (.int .i64 done) := by rw [cell_of_row w sb 1 _ _ _ K.row]; rfl
  have hf1 : ∀ o, w.frozen? ⟨sb, o, none⟩ = false := fun o => frozen_of_row w sb o _ 71 K.row
  have hc0 : w.cell? ⟨sb, 0, none⟩ = some (.int .i64 keep) := by rw [cell_of_row w sb 0 _ _ _ K.row]; rfl
  have hc2 : w.cell? ⟨sb, 2, none⟩ = some (.map (some mb)) := by rw [cell_of_row w sb 2 _ _ _ K.row]; rfl
  have hlt := World.block_lt_of_cell? w _ hc2
  have hmn := fun W => run_eql_map_nil (P := Try.prog) W 69 3 47 (some mb) Try.underlying69
  go_enter Try.func12, Try.ntmps12
  go_wp2_with fail
  refine (of_any sb mb c a l.length cap _ (((below2 w _ _).cell hlt).trans hc2) (K.look _ ((below2 w _ _).block mb K.mlt))).mono ?_
  rintro e w3 ⟨rfl, rfl⟩
  go_wp2_with fail
  refine (find_any _ l n a cap _ (cell_new3 _ _ _ _ _) (K.reads.below (below3 w _ _ _)) K.asc hn hn2 K.few).mono ?_
  rintro e w4 ⟨i', hp', rfl, hb4⟩
  obtain rfl := hp'.unique hp
  have hb40 := (below3 w _ _ _).trans (hb4.mono (below3 w _ _ _).size)
  obtain ⟨⟨x0, x1, x2⟩, ⟨y0, y1, y2⟩, yf, hz4⟩ := own3 hb4
  have e0 : w4.cell? ⟨sb, 0, none⟩ = some (.int .i64 keep) := (hb40.cell hlt).trans hc0
  have e2 : w4.cell? ⟨sb, 2, none⟩ = some (.map (some mb)) := (hb40.cell hlt).trans hc2
  have hlk := fun nq => K.look (w4.drewN nq) (hb40.block mb K.mlt)
  have e1 : w4.cell? ⟨sb, 1, none⟩ = some (.int .i64 done) := (hb40.cell hlt).trans hc1
  have ef : ∀ o, w4.frozen? ⟨sb, o, none⟩ = false := fun o => (hb40.frozen (p := ⟨sb, o, none⟩) hlt).trans (hf1 o)
  have HB40 := hid hb40
  clear hb40 hb4
  go_wp2_with fail
  go_quiet (fail)
  clear hlk
  have hfew := K.few
  have hfn := func_some
  go_upto_block 1 with fail
  go_cut [] (fun wx => wx = w4.drewN nq)
  case first =>
    rcases Nat.eq_zero_or_pos i' with h0 | h0
    · have hk' := hk h0
      subst h0
      clear hk
      go_wp2_with fail
      go_meet
      rfl
    · have hi0 : ((i' : Int) == 0) = false := by rw [beq_eq_false_iff_ne]; omega
      clear hk
      go_wp2_with fail
      go_meet
      rfl
  case rest =>
    subst hcut
    clear hk hmn hfn
    go_wp2_with fail
    obtain ⟨w5, hw5⟩ : ∃ w5, w5 = (w4.drewN nq).setCell ⟨sb, 1, none⟩ (.int .i64 (done + 1)) := ⟨_, rfl⟩
    rw [← hw5]
    have o5 : ∀ k, k ≠ sb → w5.heap[k]? = w4.heap[k]? := fun k hk => by rw [hw5]; exact Below.heap_setCell _ _ _ _ hk
    have c5 : ∀ b o, b ≠ sb → w5.cell? ⟨b, o, none⟩ = w4.cell? ⟨b, o, none⟩ := fun b o hb => World.cell?_of_block (o5 b hb)
    have f5 : ∀ b o, w5.frozen? ⟨b, o, none⟩ = w4.frozen? ⟨b, o, none⟩ := fun b o => by rw [hw5, World.frozen?_setCell]; rfl
    have hsz : w5.heap.size = w4.heap.size := by rw [hw5]; simp
    have X0 := (c5 w.heap.size 0 (by omega)).trans x0
    have X1 := (c5 w.heap.size 1 (by omega)).trans x1
    have X2 := (c5 w.heap.size 2 (by omega)).trans x2
    have Y0 := (c5 (w.heap.size + 1) 0 (by omega)).trans y0
    have Y1 := (c5 (w.heap.size + 1) 1 (by omega)).trans y1
    have Y2 := (c5 (w.heap.size + 1) 2 (by omega)).trans y2
    have YF : ∀ o, w5.frozen? ⟨w.heap.size + 1, o, none⟩ = false := fun o => (f5 _ _).trans (yf o)
    have E0 : w5.cell? ⟨sb, 0, none⟩ = some (.int .i64 keep) := by rw [hw5, World.cell?_setCell_other _ _ _ _ (by simp)]; exact e0
    have E2 : w5.cell? ⟨sb, 2, none⟩ = some (.map (some mb)) := by rw [hw5, World.cell?_setCell_other _ _ _ _ (by simp)]; exact e2
    have HO5 := hid o5
    have HW5 := hid hw5
    have Z5 : w.heap.size + 1 + 1 + 1 ≤ w5.heap.size := by omega
    clear x0 x1 x2 y0 y1 y2 yf e0 e1 e2 ef c5 f5 hsz hw5 o5 hz4
    go_upto_region 17 with fail
    go_cut [13] (fun s13 wx => s13 = .pointer (some ⟨w5.heap.size, 0, none⟩) ∧ wx = (w5.alloc (.cells #[.int .i64 c, .int .i64 n, .string (answerS s)] 37)).drew)
    case first =>
      have n0 := World.new_ne w5 _ X0
      go_region_held3 (fun w' => w'.cell? ⟨w.heap.size, 0, none⟩ = some (.int .i64 c) ∧ w'.cell? ⟨w.heap.size, 1, none⟩ = some (.int .i64 n) ∧ w'.cell? ⟨w.heap.size, 2, none⟩ = some (.string s)) (go_keep) ((go_at_call 13; refine (answer_any _ _ (by omega)).mono ?_; rintro e w' ⟨rfl, rfl⟩))
      all_goals (go_wp2_with fail; go_meet; exact ⟨rfl, rfl⟩)
    case rest =>
      obtain ⟨rfl, rfl⟩ := hcut
      go_upto_if 101 with fail
      go_cut [] (fun wx => wx = (w5.alloc (.cells #[.int .i64 c, .int .i64 n, .string (clipS (answerS s))] 37)).drew)
      case first =>
        by_cases hbig : 4000 < (answerS s).size
        · have hT : clipS (answerS s) = ⟨#[]⟩ := by unfold clipS; rw [if_pos hbig]
          have HT := hid hT
          clear hT
          go_wp2_with fail
          go_meet
          rw [HT.out]
        · have hT : clipS (answerS s) = answerS s := by unfold clipS; rw [if_neg hbig]
          have HT := hid hT
          clear hT
          go_wp2_with fail
          go_meet
          rw [HT.out]
      case rest =>
        rw [hT] at hcut
        obtain ⟨w6, hw6⟩ : ∃ w6, w6 = wc := ⟨_, rfl⟩
        rw [← hw6] at hcut ⊢
        clear hw6
        have o6 : ∀ k, k < w5.heap.size → w6.heap[k]? = w5.heap[k]? := fun k hk => by rw [hcut]; exact Below.heap_alloc w5 _ k hk
        have hn6 : w6.heap[w5.heap.size]? = some (.cells #[.int .i64 c, .int .i64 n, .string T] 37 (0, 0)) := by rw [hcut]; exact heap_alloc_new w5 _
        have hz6 : w6.heap.size = w5.heap.size + 1 := by rw [hcut]; simp
        have c6 : ∀ b o, b < w5.heap.size → w6.cell? ⟨b, o, none⟩ = w5.cell? ⟨b, o, none⟩ := fun b o hb => World.cell?_of_block (o6 b hb)
        have f6 : ∀ b o, b < w5.heap.size → w6.frozen? ⟨b, o, none⟩ = w5.frozen? ⟨b, o, none⟩ := fun b o hb => World.frozen?_of_block (o6 b hb)
        have hb56 : Below w5.heap.size w5 w6 := by rw [hcut]; exact ((Below.refl _ _).alloc (Nat.le_refl _) _).drew
        have P0 : w6.cell? ⟨w5.heap.size, 0, none⟩ = some (.int .i64 c) := by rw [cell_of_row w6 _ 0 _ _ _ hn6]; rfl
        have P1 : w6.cell? ⟨w5.heap.size, 1, none⟩ = some (.int .i64 n) := by rw [cell_of_row w6 _ 1 _ _ _ hn6]; rfl
        have P2 : w6.cell? ⟨w5.heap.size, 2, none⟩ = some (.string T) := by rw [cell_of_row w6 _ 2 _ _ _ hn6]; rfl
        have X0' := (c6 w.heap.size 0 (by omega)).trans X0
        have Y0' := (c6 (w.heap.size + 1) 0 (by omega)).trans Y0
        have Y1' := (c6 (w.heap.size + 1) 1 (by omega)).trans Y1
        have Y2' := (c6 (w.heap.size + 1) 2 (by omega)).trans Y2
        have YF' : ∀ o, w6.frozen? ⟨w.heap.size + 1, o, none⟩ = false := fun o => (f6 _ _ (by omega)).trans (YF o)
        have E0' := (c6 sb 0 (by omega)).trans E0
        have E2' := (c6 sb 2 (by omega)).trans E2
        have H6 := hid hcut
        have HN6 := hid hn6
        clear hcut hn6 X0 X1 X2 Y0 Y1 Y2 YF E0 E2 c6 f6
        clear hT
        have hu4 : Upd (fun k => k = sb) w w4 := Upd.of_new HB40.out
        have hu6 : Upd (fun k => k = sb) w w6 := by
          rw [H6.out, HW5.out]
          exact ((((hu4.drewN nq).setCell (p := ⟨sb, 1, none⟩) (.inl rfl) _).alloc _).drew)
        have hr6 : Reads w6 (.slice a l.length cap) l.length 3 (rqs l) := reads_apart K.reads K.row fun k hk hlt => hu6.block k hlt hk
        have HR6 := hid hr6
        have HU6 := hid hu6
        have hvb := HN6.out
        have n5 : w6.heap.size ≠ w5.heap.size := by omega
        have l56 : w5.heap.size < w6.heap.size := by omega
        have HZ6 := hid hz6
        clear hz6 hr6 hu4 hu6
        go_upto_region 20 with fail
        go_cut [12] (fun s12 wx => Ins w6.heap.size (l.length + 1) (l.take i' ++ ⟨c, n, T⟩ :: l.drop i') w6 s12 wx)
        case first =>
          go_region_held3 (fun w' => w'.cell? ⟨w5.heap.size, 0, none⟩ = some (.int .i64 c) ∧ w'.cell? ⟨w5.heap.size, 1, none⟩ = some (.int .i64 n) ∧ w'.cell? ⟨w5.heap.size, 2, none⟩ = some (.string T))
            (first
              | go_keep
              | (go_split_ands
                 refine ⟨?_, ?_, ?_⟩ <;> (rw [hb8.cell (by simp; omega)]; assumption))
              | (go_split_ands
                 refine ⟨?_, ?_, ?_⟩ <;> (rw [hb7.cell (by simp; omega)]; assumption)))
            (first
              | (go_at_call 28
                 refine (clone_any l _ _ _ ?_ hfew).mono ?_
                 · first
                   | exact HR6.out.drew
                   | exact (HR6.out.below ((Below.refl _ _).alloc (Nat.le_refl _) _)).drew
                 rintro e w7 ⟨a7, cap7, rfl, hown, hb7⟩)
              | (go_at_call 27
                 refine (insert_at w6.heap.size l _ _ _ i' ⟨c, n, T⟩ _ ?_ ?_ ?_ ?_ hfew hp.le).mono ?_
                 · first
                   | exact owns_base (hown.alloc _) (by simp)
                   | exact owns_base hown (by simp)
                 · first
                   | exact heap_alloc_new w7 _
                   | exact (hb7.block w6.heap.size (by simp)).trans (heap_alloc_new w6 _)
                 · first
                   | exact fun hh => by have := (hown.lt _ hh).2; omega
                   | exact fun hh => by have := (hown.lt _ hh).1; simp at this; omega
                 · have := hb7.size
                   simp at this ⊢
                   omega
                 rintro e w8 ⟨g, cg, rfl, hown8, hb8⟩))
          · go_wp2_with fail
            go_meet
            have h67 : Below w6.heap.size w6 w7 := ((Below.refl _ _).drew).trans (hb7.mono (by simp))
            exact ⟨g, cg, rfl, hown8, (h67.alloc (by have := hb7.size; simpa using this) _).trans hb8⟩
          · go_wp2_with fail
            go_meet
            have h67 : Below w6.heap.size w6 w7 := (((Below.refl w6.heap.size w6).alloc (Nat.le_refl _) _).drew).trans (hb7.mono (by simp))
            exact ⟨g, cg, rfl, hown8, h67.trans hb8⟩
        case rest =>
          obtain ⟨g, cg, rfl, hown, hb7⟩ := hcut
          have c7 : ∀ b o, b < w6.heap.size → wc.cell? ⟨b, o, none⟩ = w6.cell? ⟨b, o, none⟩ := fun b o hb => hb7.cell (p := ⟨b, o, none⟩) hb
          have X7 := (c7 w.heap.size 0 (by omega)).trans X0'
          have E7 := (c7 sb 0 (by omega)).trans E0'
          have M7 := (c7 sb 2 (by omega)).trans E2'
          have hsh := (Reads.of_owns hown).shape
          obtain ⟨_, _, e, hcg, hcm⟩ := hsh
          cases e
          have HO6 := hid o6
          have HB7 := hid hb7
          have HOWN := hid hown
          clear c7 hown hb7 X0' E0' E2' o6 hb56 hvb
          unfold maxLen at hcm
          obtain ⟨d, hd⟩ : ∃ d : Nat, d = l.length + 1 - keep.toNat := ⟨_, rfl⟩
          have hwr : IntKind.i64.wrap ((l.length : Int) + 1 - keep) = (l.length : Int) + 1 - keep := by rw [IntKind.wrap_i64]; omega
          have hif : (if keep < (l.length : Int) + 1 then (l.length : Int) + 1 - keep else 0) = (d : Int) := by split <;> omega
          have hd2 : (d : Int) ≤ (l.length : Int) + 1 := by omega
          have hd3 : ¬ cg = d := by omega
          have hd4 : (0 : Int) ≤ (d : Int) := by omega
          have HD := hid hd
          have hmb : mb ≠ sb := by
            intro e
            obtain ⟨es, clock, hb, _⟩ := hfm
            have := K.row
            rw [← e, hb] at this
            cases this
          have hmc : MapIs wc mb fm := (hfm.upd HU6.out hmb).upd (Upd.of_new (F := fun _ => False) HB7.out) (fun h => h)
          obtain ⟨w9, hrun, hmap, hgrow, hsz9⟩ := run_update_is hmc.drew Try.underlying69 Try.underlying3 c (.slice (some ⟨g, d * 3, none⟩) (l.length + 1 - d) (cg - d))
          have HRUN := hid hrun
          have HMAP := hid hmap
          have HGR := hid hgrow
          have HS9 := hid hsz9
          clear hd hrun hmap hgrow hsz9 hmc
          go_upto_region 21 with fail
          go_still_tail 16, (by kernel_rfl)
          have hrun := HRUN.out
          have b9 : ∀ b, b < w6.heap.size → b ≠ mb → w9.heap[b]? = w6.heap[b]? := fun b hb hm => (HGR.out.block b (Nat.lt_of_lt_of_le hb HB7.out.size) (by simpa using hm)).trans (HB7.out.block b hb)
          have hml := K.mlt
          have c9 : ∀ b o, b < w6.heap.size → b ≠ mb → w9.cell? ⟨b, o, none⟩ = w6.cell? ⟨b, o, none⟩ := fun b o hb hm => World.cell?_of_block (b9 b hb hm)
          have P09 := (c9 w5.heap.size 0 l56 (by omega)).trans P0
          have P19 := (c9 w5.heap.size 1 l56 (by omega)).trans P1
          have P29 := (c9 w5.heap.size 2 l56 (by omega)).trans P2
          have Y09 := (c9 (w.heap.size + 1) 0 (by omega) (by omega)).trans Y0'
          have Y19 := (c9 (w.heap.size + 1) 1 (by omega) (by omega)).trans Y1'
          have Y29 := (c9 (w.heap.size + 1) 2 (by omega) (by omega)).trans Y2'
          have YF9 : ∀ o, w9.frozen? ⟨w.heap.size + 1, o, none⟩ = false := fun o => (World.frozen?_of_block (b9 (w.heap.size + 1) (by omega) (by omega))).trans (YF' o)
          have HB9 := hid b9
          clear b9 c9 P0 P1 P2 Y0' Y1' Y2' YF' hwr hif hd2 hd3 hd4
          go_wp2_with fail
          exact bodyPost_ret (v := .tuple #[.agg #[.int .i64 c, .int .i64 n, .string T], .bool true, .int .i64 0]) (by simp [results, Try.results12, go_sem, Y09, Y19, Y29]) rfl
            (served_close K (w4 := w4.drewN nq) (HB40.out.trans ⟨rfl, rfl, rfl, Nat.le_refl _, fun _ _ => rfl⟩) HW5.out (HO6.out) (by omega) Z5 HU6.out HB7.out HOWN.out HD.out hmb HMAP.out HGR.out HS9.out)

end Go.Proofs.Ytaglidlibocgpaa
