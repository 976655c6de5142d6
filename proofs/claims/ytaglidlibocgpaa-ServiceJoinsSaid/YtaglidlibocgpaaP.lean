/-
  (*Client).Ask: what each way through it returns, and the client's memory behind it.
-/
import Derived.Test.YtaglidlibocgpaaO
import Derived.Maps.AppendAt
namespace Go.Proofs.Ytaglidlibocgpaa
open Go.RowKit

theorem Try.info87 : (Try.prog.info? 87).map (fun i => (i.zero, i.size, i.bytes)) = some (some (.agg #[.string ⟨#[]⟩, .int .i64 0, .int .i64 0, .int .i64 0, .string ⟨#[]⟩]), 5, 56) := by kernel_rfl

set_option maxRecDepth 100000 in
set_option maxHeartbeats 400000 in
theorem ask_nil (t : Int) (s : ByteArray) (w : World) : Calls Try.prog 18 #[.pointer none, .int .i64 t, .string s] w fun e w' => e = .returned (.tuple #[.int .i64 0, .int .i64 6]) ∧ w = w' := by
  go_enter Try.func18, Try.ntmps18
  go_wp2_with fail
  go_ret2
  exact ⟨rfl, rfl⟩

set_option maxRecDepth 100000 in
set_option maxHeartbeats 400000 in
theorem ask_range (cb : Nat) (t : Int) (s : ByteArray) (w : World) (h : t < 0 ∨ 1099511627776 < t) : Calls Try.prog 18 #[.pointer (some ⟨cb, 0, none⟩), .int .i64 t, .string s] w fun e w' => e = .returned (.tuple #[.int .i64 0, .int .i64 4]) ∧ w = w' := by
  go_enter Try.func18, Try.ntmps18
  go_wp2_with (go_at_call 33; refine (timely_no _ _ h).mono ?_; rintro e w1 ⟨rfl, rfl⟩)
  go_ret2
  exact ⟨rfl, rfl⟩

set_option maxRecDepth 100000 in
set_option maxHeartbeats 400000 in
theorem ask_long (cb : Nat) (t : Int) (s : ByteArray) (w : World) (h0 : 0 ≤ t) (h1 : t ≤ 1099511627776) (hs : 4000 < s.size) (hs2 : s.size ≤ 4100) : Calls Try.prog 18 #[.pointer (some ⟨cb, 0, none⟩), .int .i64 t, .string s] w fun e w' => e = .returned (.tuple #[.int .i64 0, .int .i64 3]) ∧ w = w' := by
  go_enter Try.func18, Try.ntmps18
  go_wp2_with (go_at_call 33; refine (timely_yes _ _ h0 h1).mono ?_; rintro e w1 ⟨rfl, rfl⟩)
  go_ret2
  exact ⟨rfl, rfl⟩

/-- How many calls are open. -/
def openN (l : List Asked) : Nat := (l.filter fun x => x.state == 0).length
theorem openN_snoc (l : List Asked) (x : Asked) : openN (l ++ [x]) = openN l + if x.state = 0 then 1 else 0 := by
  unfold openN
  rw [List.filter_append, List.length_append]
  by_cases h : x.state = 0 <;> simp [h]
theorem openN_le (l : List Asked) : openN l ≤ l.length := List.length_filter_le _ _

/-- What is known of a client's memory. -/
structure Mem (w : World) (cb : Nat) (C : Cl) (v : Value) : Prop where
  row : w.heap[cb]? = some (.cells #[.int .i64 C.id, .int .i64 C.retry, .int .i64 C.tries, v] 84 (0, 0))
  own : w.ownsRow 0 87 5 v C.calls.length (askeds C.calls)

theorem asked_cells {w : World} {b o len cap : Nat} {l : List Asked} (hr : Reads w (.slice (some ⟨b, o, none⟩) len cap) len 5 (askeds l)) (k : Nat) (h : k < l.length) :
    w.cell? ⟨b, o + k * 5, none⟩ = some (.string l[k].text) ∧ w.cell? ⟨b, o + k * 5 + 1, none⟩ = some (.int .i64 l[k].time) ∧ w.cell? ⟨b, o + k * 5 + 2, none⟩ = some (.int .i64 l[k].sent) ∧
    w.cell? ⟨b, o + k * 5 + 3, none⟩ = some (.int .i64 l[k].state) ∧ w.cell? ⟨b, o + k * 5 + 4, none⟩ = some (.string l[k].reply) := by
  obtain ⟨g0, g1, g2, g3, g4⟩ := askeds_get l k h
  refine ⟨hr.cell g0, ?_, ?_, ?_, ?_⟩
  · rw [Nat.add_assoc]; exact hr.cell g1
  · rw [Nat.add_assoc]; exact hr.cell g2
  · rw [Nat.add_assoc]; exact hr.cell g3
  · rw [Nat.add_assoc]; exact hr.cell g4

def AskFull (w : World) (e : Ending) (w' : World) : Prop := e = .returned (.tuple #[.int .i64 0, .int .i64 15]) ∧ Below w.heap.size w w'
def Asked1 (cb : Nat) (C : Cl) (t : Int) (s : ByteArray) (v : Value) (w : World) (e : Ending) (w' : World) : Prop :=
  e = .returned (.tuple #[.int .i64 ((C.calls.length : Int) + 1), .int .i64 0]) ∧ ∃ v', Mem w' cb { C with calls := C.calls ++ [⟨s, t, 0, 0, ⟨#[]⟩⟩] } v' ∧ Upd (fun k => k = cb ∨ v.ownBlock = some k) w w' ∧ ∀ b, v'.ownBlock = some b → v.ownBlock = some b ∨ w.heap.size ≤ b

set_option maxRecDepth 100000 in
set_option maxHeartbeats 1000000 in
theorem ask_full (cb : Nat) (C : Cl) (t : Int) (s : ByteArray) (v : Value) (w : World) (M : Mem w cb C v) (h0 : 0 ≤ t) (h1 : t ≤ 1099511627776) (hs : s.size ≤ 4000) (hlen : C.calls.length ≤ 1000) (hf : 64 ≤ openN C.calls) :
    Calls Try.prog 18 #[.pointer (some ⟨cb, 0, none⟩), .int .i64 t, .string s] w (AskFull w) := by
  obtain ⟨id, retry, tries, l⟩ := C
  have hr := Reads.of_owns M.own
  dsimp only at *
  obtain ⟨a, cap, rfl, hc, hm⟩ := hr.shape
  have c3 : w.cell? ⟨cb, 3, none⟩ = some (.slice a l.length cap) := by rw [cell_of_row w cb 3 _ _ _ M.row]; rfl
  have hcb := World.block_lt_of_cell? w _ c3
  clear M hm
  go_enter Try.func18, Try.ntmps18
  go_wp2_with (go_at_call 33; refine (timely_yes _ _ h0 h1).mono ?_; rintro e w1 ⟨rfl, rfl⟩)
  go_loopg [8, 27] (l.length + 1) (fun g b i wr => ∃ k : Nat, i = .int .i64 k ∧ b = .int .i64 (openN (l.take k)) ∧ k ≤ l.length ∧ l.length - k < g ∧ Below w.heap.size w wr)
  case atStart => exact ⟨0, rfl, rfl, by omega, by omega, Below.refl _ _⟩
  case round =>
    obtain ⟨k, rfl, rfl, hk, hg, hb⟩ := hrel
    have hok := openN_le (l.take k)
    rw [List.length_take] at hok
    by_cases hlt : k < l.length
    · obtain ⟨b, o, rfl⟩ := hr.addr (by omega)
      obtain ⟨x0, x1, x2, x3, x4⟩ := asked_cells (hr.below hb) k hlt
      obtain ⟨x, hx⟩ : ∃ x, l[k] = x := ⟨_, rfl⟩
      rw [hx] at x0 x1 x2 x3 x4
      have hsn := openN_snoc (l.take k) x
      have htk : l.take k ++ [x] = l.take (k + 1) := by rw [← hx]; simp
      rw [htk] at hsn
      have HS := hid hsn
      have HR := hid hr
      clear hx hsn htk hr
      by_cases h00 : x.state = 0
      · have hz : (x.state == 0) = true := by simpa using h00
        go_wp2_with fail
        go_roundg (gk - 1)
        case measure => omega
        case rel => exact ⟨k + 1, by go_num, by rw [HS.out, if_pos h00]; go_num, by omega, by omega, hb.alloc hb.size _⟩
      · have hz : (x.state == 0) = false := by simpa using h00
        have HNZ := hid h00
        clear h00
        go_wp2_with fail
        go_roundg (gk - 1)
        case measure => omega
        case rel => exact ⟨k + 1, by go_num, by rw [HS.out, if_neg HNZ.out]; go_num, by omega, by omega, hb.alloc hb.size _⟩
    · have hk' : l.take k = l := List.take_of_length_le (by omega)
      rw [hk'] at *
      have hge : ¬ (openN l < 64) := by omega
      go_wp2_with fail
      go_ret2
      exact ⟨rfl, hb⟩

theorem below_grown {w w' : World} (h : Below w.heap.size w w') : w.grownBy w' none := ⟨h.os, h.tape, h.output, h.size, fun k hk _ => h.block k hk⟩
theorem owns_below {w w' : World} {base e size n : Nat} {v : Value} {xs : List Value} (h : w.ownsRow base e size v n xs) (hb : Below w.heap.size w w') : w'.ownsRow base e size v n xs :=
  h.kept (below_grown hb) (by cases v.ownBlock <;> simp)
theorem news_alloc (w : World) (cs : List Value) (t : Nat) : ∀ j u, cs[j]? = some u → (w.alloc (.cells cs.toArray t)).cell? ((⟨w.heap.size, 0, none⟩ : Addr).add j) = some u := by
  intro j u hj
  rw [Addr.add_lit, Nat.zero_add, World.cell?_alloc_new]
  simpa using hj
/-- A client's own row and the row of its calls are two blocks. -/
theorem Mem.apart {w : World} {cb : Nat} {C : Cl} {v : Value} (M : Mem w cb C v) : v.ownBlock ≠ some cb := by
  intro h
  rcases M.own.2 with ⟨rfl, _⟩ | ⟨g, cap, cur, rfl, _, hg, _⟩
  · cases h
  · simp only [Value.ownBlock, Option.some.injEq] at h
    subst h
    have := M.row
    rw [hg] at this
    simp at this

theorem ask_cell {w : World} {cb : Nat} {x y z v : Value} (h : w.heap[cb]? = some (.cells #[x, y, z, v] 84 (0, 0))) : w.cell? ⟨cb, 3, none⟩ = some v := by rw [cell_of_row w cb 3 _ _ _ h]; rfl
theorem ask_frozen {w : World} {cb : Nat} {x y z v : Value} (h : w.heap[cb]? = some (.cells #[x, y, z, v] 84 (0, 0))) : w.frozen? ⟨cb, 3, none⟩ = false := frozen_of_row w cb 3 _ 84 h

theorem ask_close {cb g' cap' cap : Nat} {id retry tries t : Int} {s : ByteArray} {l : List Asked} {a : Option Addr} {w wr w5 : World} {o : Obj} (hcb : cb < w.heap.size) (hap : (Value.slice a l.length cap).ownBlock ≠ some cb) (hb : Below w.heap.size w wr)
    (hg : (wr.alloc o).grownBy w5 (Value.slice a l.length cap).ownBlock) (h5 : w5.heap[cb]? = some (.cells #[.int .i64 id, .int .i64 retry, .int .i64 tries, .slice a l.length cap] 84 (0, 0)))
    (hown : w5.ownsRow 0 87 5 (.slice (some ⟨g', 0, none⟩) (l.length + 1) cap') (l.length + 1) (askeds l ++ askeds [⟨s, t, 0, 0, ⟨#[]⟩⟩]))
    (hloc : (Value.slice (some ⟨g', 0, none⟩) (l.length + 1) cap').ownBlock = (Value.slice a l.length cap).ownBlock ∨ (Value.slice (some ⟨g', 0, none⟩) (l.length + 1) cap').ownBlock = some (wr.alloc o).heap.size) :
    Asked1 cb ⟨id, retry, tries, l⟩ t s (.slice a l.length cap) w (.returned (.tuple #[.int .i64 ((l.length : Int) + 1), .int .i64 0])) (w5.setCell ⟨cb, 3, none⟩ (.slice (some ⟨g', 0, none⟩) (l.length + 1) cap')) := by
  have hsz := hb.size
  have hgc : g' ≠ cb := by
    intro e
    subst e
    rcases hloc with h | h
    · exact hap (h ▸ rfl)
    · simp only [Value.ownBlock, Option.some.injEq, World.size_alloc] at h
      omega
  refine ⟨rfl, .slice (some ⟨g', 0, none⟩) (l.length + 1) cap', ⟨?_, ?_⟩, ?_, fun b hbb => ?_⟩
  · have := heap_setCell_same w5 cb 3 _ 84 (.slice (some ⟨g', 0, none⟩) (l.length + 1) cap') h5
    rw [this]
    rfl
  · have hk : w5.grownBy (w5.setCell ⟨cb, 3, none⟩ (.slice (some ⟨g', 0, none⟩) (l.length + 1) cap')) (some cb) :=
      ⟨rfl, rfl, rfl, by simp, fun k _ hk => Below.heap_setCell _ _ _ _ (fun e => hk (by rw [e]))⟩
    have := hown.kept hk (.inr (by simp [Value.ownBlock, hgc]))
    rw [← askeds_append] at this
    simpa using this
  · have u1 : Upd (fun k => k = cb ∨ (Value.slice a l.length cap).ownBlock = some k) w wr := Upd.of_new hb
    exact ((u1.alloc o).grown hg (fun k hk => .inl (.inr hk))).setCell (p := ⟨cb, 3, none⟩) (.inl (.inl rfl)) _
  · rw [hbb] at hloc
    rcases hloc with h | h
    · exact .inl h.symm
    · simp only [Option.some.injEq, World.size_alloc] at h
      exact .inr (by omega)

set_option maxRecDepth 100000 in
set_option maxHeartbeats 1000000 in
theorem ask_ok (cb : Nat) (C : Cl) (t : Int) (s : ByteArray) (v : Value) (w : World) (M : Mem w cb C v) (h0 : 0 ≤ t) (h1 : t ≤ 1099511627776) (hs : s.size ≤ 4000) (hlen : C.calls.length ≤ 1000) (hf : openN C.calls < 64) :
    Calls Try.prog 18 #[.pointer (some ⟨cb, 0, none⟩), .int .i64 t, .string s] w (Asked1 cb C t s v w) := by
  have hap := M.apart
  obtain ⟨id, retry, tries, l⟩ := C
  have hr := Reads.of_owns M.own
  dsimp only at *
  obtain ⟨a, cap, rfl, hc, hm⟩ := hr.shape
  have c3 : w.cell? ⟨cb, 3, none⟩ = some (.slice a l.length cap) := by rw [cell_of_row w cb 3 _ _ _ M.row]; rfl
  have hcb := World.block_lt_of_cell? w _ c3
  have HM := hid M
  obtain ⟨i0, hi, hz0, hz1, hz2⟩ := info_parts Try.info87
  clear M hm
  go_enter Try.func18, Try.ntmps18
  go_wp2_with (go_at_call 33; refine (timely_yes _ _ h0 h1).mono ?_; rintro e w1 ⟨rfl, rfl⟩)
  go_loopg [8, 27] (l.length + 1) (fun g b i wr => ∃ k : Nat, i = .int .i64 k ∧ b = .int .i64 (openN (l.take k)) ∧ k ≤ l.length ∧ l.length - k < g ∧ Below w.heap.size w wr)
  case atStart => exact ⟨0, rfl, rfl, by omega, by omega, Below.refl _ _⟩
  case round =>
    obtain ⟨k, rfl, rfl, hk, hg, hb⟩ := hrel
    have hok := openN_le (l.take k)
    rw [List.length_take] at hok
    by_cases hlt : k < l.length
    · obtain ⟨b, o, rfl⟩ := hr.addr (by omega)
      obtain ⟨x0, x1, x2, x3, x4⟩ := asked_cells (hr.below hb) k hlt
      obtain ⟨x, hx⟩ : ∃ x, l[k] = x := ⟨_, rfl⟩
      rw [hx] at x0 x1 x2 x3 x4
      have hsn := openN_snoc (l.take k) x
      have htk : l.take k ++ [x] = l.take (k + 1) := by rw [← hx]; simp
      rw [htk] at hsn
      have HS := hid hsn
      have HR := hid hr
      clear hx hsn htk hr hz0 hz1 hz2 hi
      by_cases h00 : x.state = 0
      · have hz : (x.state == 0) = true := by simpa using h00
        go_wp2_with fail
        go_roundg (gk - 1)
        case measure => omega
        case rel => exact ⟨k + 1, by go_num, by rw [HS.out, if_pos h00]; go_num, by omega, by omega, hb.alloc hb.size _⟩
      · have hz : (x.state == 0) = false := by simpa using h00
        have HNZ := hid h00
        clear h00
        go_wp2_with fail
        go_roundg (gk - 1)
        case measure => omega
        case rel => exact ⟨k + 1, by go_num, by rw [HS.out, if_neg HNZ.out]; go_num, by omega, by omega, hb.alloc hb.size _⟩
    · have hk' : l.take k = l := List.take_of_length_le (by omega)
      rw [hk'] at *
      have hge : openN l < 64 := by omega
      have c3' : wr.cell? ⟨cb, 3, none⟩ = some (.slice a l.length cap) := (hb.cell (p := ⟨cb, 3, none⟩) hcb).trans c3
      have hrow : wr.heap[cb]? = some (.cells #[.int .i64 id, .int .i64 retry, .int .i64 tries, .slice a l.length cap] 84 (0, 0)) := (hb.block cb hcb).trans HM.out.row
      have HROW := hid hrow
      have HOWN := hid (owns_below HM.out.own hb)
      have HB := hid hb
      have hcr : cb < wr.heap.size := Nat.lt_of_lt_of_le hcb hb.size
      have HNEWS := hid (news_alloc wr (askeds [⟨s, t, 0, 0, ⟨#[]⟩⟩]) 87)
      clear hrow hb c3 hr hk'
      go_wp2_with (at_builtin; refine wpList_append_own_at _ rfl (.tmp 43) (.tmp 47) 82 rfl 0 87 i0 _ 5 56 Try.underlying82 hi hz0 hz1 hz2 rfl (by decide) (.slice a l.length cap) l.length (askeds l) rfl (HOWN.out.alloc _) ⟨wr.heap.size, 0, none⟩ 1 1 (askeds [⟨s, t, 0, 0, ⟨#[]⟩⟩]) rfl rfl HNEWS.out (askeds_one _) (by unfold maxLen; omega) (by omega) (by simp) ?_; intro v' w5 hown5 hgrow hnil hloc; obtain ⟨g', cap', rfl, _, hcg, hcm⟩ := owns_some hown5 (fun e => by have := hnil.1 e; simp at this); have hr5 := (hgrow.block cb (by simp; omega) (Ne.symm hap)).trans ((Below.heap_alloc _ _ _ hcr).trans HROW.out); have c5 := ask_cell hr5; have f5 := ask_frozen hr5; have HGROW := hid hgrow; have HR5 := hid hr5; have HOWN5 := hid hown5; have HLOC := hid hloc; clear hgrow hr5 hown5 hloc hnil)
      go_ret2
      exact ask_close hcb hap HB.out HGROW.out HR5.out HOWN5.out HLOC.out

end Go.Proofs.Ytaglidlibocgpaa
