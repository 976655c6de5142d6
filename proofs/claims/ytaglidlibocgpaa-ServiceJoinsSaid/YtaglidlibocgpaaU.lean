/-
  The law's small helpers over lists (plain, Same, ints) and the nil client's Reply and Result.
-/
import Derived.Test.YtaglidlibocgpaaT
namespace Go.Proofs.Ytaglidlibocgpaa
open Go.RowKit

theorem Try.info41 : (Try.prog.info? 41).map (fun i => (i.zero, i.size, i.bytes)) = some (some (.agg #[.int .i64 0, .int .i64 0, .string ⟨#[]⟩]), 3, 32) := by kernel_rfl

set_option maxRecDepth 100000 in
theorem reply_nil (a b : Int) (s : ByteArray) (w : World) : Calls Try.prog 20 #[.pointer none, .agg #[.int .i64 a, .int .i64 b, .string s]] w fun e w' => e = .returned (.tuple #[.bool false, .int .i64 6]) ∧ Below w.heap.size w w' := by
  go_enter Try.func20, Try.ntmps20
  go_wp2_with (go_at_call 35; refine (call_nil b _).mono ?_; rintro e w1 ⟨rfl, rfl⟩)
  go_quiet (fail)
  go_wp2_with fail
  go_ret2
  exact ⟨rfl, below_box _ _ _⟩

set_option maxRecDepth 100000 in
theorem result_nil (n : Int) (w : World) : Calls Try.prog 22 #[.pointer none, .int .i64 n] w fun e w' => e = .returned (.tuple #[.string ⟨#[]⟩, .int .i64 6]) ∧ w = w' := by
  go_enter Try.func22, Try.ntmps22
  go_wp2_with (go_at_call 35; refine (call_nil n _).mono ?_; rintro e w1 ⟨rfl, rfl⟩)
  go_ret2
  exact ⟨rfl, rfl⟩

def PlainEnds (l : List Rq) (w : World) (e : Ending) (w' : World) : Prop :=
  ∃ vo, e = .returned vo ∧ w'.ownsRow w.heap.size 41 3 vo l.length (rqs l) ∧ Below w.heap.size w w'

/-- Behind k rounds of plain: the first k calls are in the row. -/
def PlainR (l : List Rq) (w : World) (k : Nat) (vo : Value) (wr : World) : Prop := wr.ownsRow w.heap.size 41 3 vo k (rqs (l.take k)) ∧ Below w.heap.size w wr

set_option maxRecDepth 100000 in
set_option maxHeartbeats 2000000 in
theorem plain_any (l : List Rq) (v : Value) (w : World) (hr : Reads w v l.length 3 (rqs l)) (hl : l.length ≤ 1000) : Calls Try.prog 24 #[v] w (PlainEnds l w) := by
  obtain ⟨i0, hi, hz0, hz1, hz2⟩ := info_parts Try.info41
  obtain ⟨a, cap, rfl, hc, hm⟩ := hr.shape
  go_enter Try.func24, Try.ntmps24
  go_wp2_with fail
  go_loopg [3, 4] (l.length + 1) (fun g vo i wr => ∃ k : Nat, i = .int .i64 k ∧ k ≤ l.length ∧ l.length - k < g ∧ PlainR l w k vo wr)
  case atStart => exact ⟨0, rfl, by omega, by omega, World.ownsRow_nil w _ _ _, Below.refl _ _⟩
  case round =>
    obtain ⟨k, rfl, hk, hg, hR⟩ := hrel
    by_cases hlt : k < l.length
    · obtain ⟨b, o, rfl⟩ := hr.addr (by omega)
      obtain ⟨g0, g1, g2⟩ := rqs_get l k hlt
      have hr' := hr.below hR.2
      have c0 := hr'.cell g0
      have c1 := hr'.cell g1
      have c2 := hr'.cell g2
      rw [← Nat.add_assoc] at c1 c2
      obtain ⟨x, hx⟩ : ∃ x, x = l[k] := ⟨_, rfl⟩
      rw [← hx] at c0 c1 c2
      have HX := hid hx
      have HR := hid hR
      have HRR := hid hr
      clear hx hR hr hr' g0 g1 g2
      go_wp2_with (first | (go_at_call 15; refine (one_any x.client x.number x.text _).mono ?_; rintro e w1 ⟨rfl, hb1⟩; have HB1 := hid hb1; have HO := hid (owns_below HR.out.1 hb1); have HNEWS := hid (news_alloc w1 (rqs [x]) 41); have hwz := Nat.le_trans HR.out.2.size hb1.size; clear hb1) | (at_builtin; refine wpList_append_own_at _ rfl (.tmp 11) (.tmp 17) 29 rfl w.heap.size 41 i0 _ 3 32 Try.underlying29 hi hz0 hz1 hz2 rfl (by decide) u3 _ _ rfl (HO.out.alloc _) ⟨w1.heap.size, 0, none⟩ 1 1 (rqs [x]) rfl rfl HNEWS.out (rqs_one _) (by unfold maxLen; omega) (by omega) (by simp; omega) ?_; intro v' w5 hown5 hgrow hnil hloc; have HGROW := hid hgrow; have HOWN5 := hid hown5; clear hgrow hown5 hloc hnil))
      go_roundg (gk - 1)
      case measure => omega
      case rel =>
        refine ⟨k + 1, by go_num, by omega, by omega, ?_, ?_⟩
        · rw [List.take_succ_eq_append_getElem hlt, ← HX.out, rqs_append]
          exact HOWN5.out
        · have u1 := (Upd.of_new (F := fun _ => False) HR.out.2).trans (Upd.of_new (F := fun _ => False) HB1.out) (fun _ h => .inl h)
          have hbl := fun b hb => (HR.out.1.lt b hb).1
          exact (((u1.alloc _).grown HGROW.out (fun b hb => .inr (hbl b hb))).below (Nat.le_refl _) (fun _ h => h.elim))
    · have hk' : k = l.length := by omega
      subst hk'
      have HR := hid hR
      clear hR
      go_wp2_with fail
      go_ret
      refine ⟨_, rfl, ?_, HR.out.2⟩
      have := HR.out.1
      rw [List.take_of_length_le (Nat.le_refl _)] at this
      exact this

set_option maxRecDepth 100000 in
set_option maxHeartbeats 2000000 in
theorem same_eq (l : List Rq) (v u : Value) (w : World) (hv : Reads w v l.length 3 (rqs l)) (hu : Reads w u l.length 3 (rqs l)) (hl : l.length ≤ 1000) : Calls Try.prog 23 #[v, u] w fun e w' => e = .returned (.bool true) ∧ Below w.heap.size w w' := by
  obtain ⟨a, cap, rfl, hc, hm⟩ := hv.shape
  obtain ⟨a', cap', rfl, hc', hm'⟩ := hu.shape
  go_enter Try.func23, Try.ntmps23
  go_wp2_with fail
  go_loopg [5] (l.length + 1) (fun g i wr => ∃ k : Nat, i = .int .i64 k ∧ k ≤ l.length ∧ l.length - k < g ∧ Below w.heap.size w wr)
  case atStart => exact ⟨0, rfl, by omega, by omega, Below.refl _ _⟩
  case round =>
    obtain ⟨k, rfl, hk, hg, hb⟩ := hrel
    by_cases hlt : k < l.length
    · obtain ⟨b, o, rfl⟩ := hv.addr (by omega)
      obtain ⟨b', o', rfl⟩ := hu.addr (by omega)
      obtain ⟨g0, g1, g2⟩ := rqs_get l k hlt
      have c0 := (hv.below hb).cell g0
      have c1 := (hv.below hb).cell g1
      have c2 := (hv.below hb).cell g2
      have d0 := (hu.below hb).cell g0
      have d1 := (hu.below hb).cell g1
      have d2 := (hu.below hb).cell g2
      rw [← Nat.add_assoc] at c1 c2 d1 d2
      obtain ⟨x, hx⟩ : ∃ x, x = l[k] := ⟨_, rfl⟩
      rw [← hx] at c0 c1 c2 d0 d1 d2
      have HB := hid hb
      clear hx hv hu g0 g1 g2 hb
      go_wp2_with fail
      go_quiet (fail)
      go_wp2_with fail
      go_roundg (gk - 1)
      case measure => omega
      case rel => exact ⟨k + 1, by go_num, by omega, by omega, HB.out.trans ⟨rfl, rfl, rfl, Nat.le_refl _, fun _ _ => rfl⟩⟩
    · go_wp2_with fail
      go_ret
      exact ⟨rfl, hb⟩

theorem nums_get (l : List Int) (k : Nat) (h : k < l.length) : (nums l)[k]? = some (.int .i64 l[k]) := by simp [nums, h]

set_option maxRecDepth 100000 in
set_option maxHeartbeats 2000000 in
theorem ints_eq (l : List Int) (v u : Value) (w : World) (hv : Reads w v l.length 1 (nums l)) (hu : Reads w u l.length 1 (nums l)) (hl : l.length ≤ 1000) : Calls Try.prog 25 #[v, u] w fun e w' => e = .returned (.bool true) ∧ Below w.heap.size w w' := by
  obtain ⟨a, cap, rfl, hc, hm⟩ := hv.shape
  obtain ⟨a', cap', rfl, hc', hm'⟩ := hu.shape
  go_enter Try.func25, Try.ntmps25
  go_wp2_with fail
  go_loopg [5] (l.length + 1) (fun g i wr => ∃ k : Nat, i = .int .i64 k ∧ k ≤ l.length ∧ l.length - k < g ∧ Below w.heap.size w wr)
  case atStart => exact ⟨0, rfl, by omega, by omega, Below.refl _ _⟩
  case round =>
    obtain ⟨k, rfl, hk, hg, hb⟩ := hrel
    by_cases hlt : k < l.length
    · obtain ⟨b, o, rfl⟩ := hv.addr (by omega)
      obtain ⟨b', o', rfl⟩ := hu.addr (by omega)
      have c0 := (hv.below hb).cell (nums_get l k hlt)
      have d0 := (hu.below hb).cell (nums_get l k hlt)
      obtain ⟨x, hx⟩ : ∃ x, x = l[k] := ⟨_, rfl⟩
      rw [← hx] at c0 d0
      have HB := hid hb
      clear hx hv hu hb
      go_wp2_with fail
      go_quiet (fail)
      go_wp2_with fail
      go_roundg (gk - 1)
      case measure => omega
      case rel => exact ⟨k + 1, by go_num, by omega, by omega, HB.out.trans ⟨rfl, rfl, rfl, Nat.le_refl _, fun _ _ => rfl⟩⟩
    · go_wp2_with fail
      go_ret
      exact ⟨rfl, hb⟩

end Go.Proofs.Ytaglidlibocgpaa
