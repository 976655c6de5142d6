/-
  A nil client, a nil server and a server without work: the law ServiceNobody's walk.
-/
import Derived.Test.YtaglidlibocgpaaX
namespace Go.Proofs.Ytaglidlibocgpaa
open Go.RowKit

/-- A server that is newer than w0. -/
structure Solo (w0 w : World) (G : Nat → Prop) (sb : Nat) (S : Sv) : Prop where
  old : Below w0.heap.size w0 w
  sv : SvAt w G sb S
  newG : ∀ k, G k → w0.heap.size ≤ k

theorem Solo.below {w0 w w' : World} {G : Nat → Prop} {sb : Nat} {S : Sv} (D : Solo w0 w G sb S) (hb : Below w.heap.size w w') : Solo w0 w' G sb S :=
  ⟨Upd.onto D.old (Upd.of_new (F := fun _ => False) hb) (fun _ h => h.elim), D.sv.below hb, D.newG⟩
theorem solo_fresh (w0 w w2 : World) (keep : Int) (hb : Below w0.heap.size w0 w) (h : (w.alloc (.map #[] 0)).alloc (.cells #[.int .i64 keep, .int .i64 0, .map (some w.heap.size)] 71) = w2) :
    Solo w0 w2 (fun k => k = w.heap.size ∨ k = w.heap.size + 1) (w.heap.size + 1) ⟨keep, 0, fun _ => []⟩ := by
  subst h
  have := hb.size
  exact ⟨(hb.alloc this _).alloc (by simp; omega) _, sv_fresh w keep, fun k hk => by omega⟩
theorem handle_solo {w0 w : World} {G : Nat → Prop} {sb : Nat} {S S' : Sv} (D : Solo w0 w G sb S) (ok : SvOk S) (hd0 : 0 ≤ S.done) (hd1 : S.done ≤ 1000000) (wv : Value) (work : Option (ByteArray → ByteArray)) (hw : (wv = .nilFunc ∧ work = none) ∨ (wv = .func (.func 13) #[] #[] ∧ work = some answerS))
    (r : Rq) (hn : r.number ≤ 9223372036854775807) (hs : r.text.size ≤ 4100) {x : Rq} {b : Bool} {er : Int} (he : handleS S r work = (S', x, b, er)) :
    Calls Try.prog 12 #[.pointer (some ⟨sb, 0, none⟩), .agg #[.int .i64 r.client, .int .i64 r.number, .string r.text], wv] w fun e w' =>
      e = .returned (.tuple #[.agg #[.int .i64 x.client, .int .i64 x.number, .string x.text], .bool b, .int .i64 er]) ∧ Upd G w w' ∧ ∃ G', Solo w0 w' G' sb S' ∧ ∀ k, G' k → G k ∨ w.heap.size ≤ k := by
  have := handle_any S G sb r wv work w D.sv ok hd0 hd1 hn hs hw
  refine this.mono fun e w' ⟨h1, G', h2, h3, h4⟩ => ?_
  rw [he] at h1 h2
  refine ⟨h1, h3, G', ⟨Upd.onto D.old h3 D.newG, h2, fun k hk => ?_⟩, h4⟩
  rcases h4 k hk with h | h
  · exact D.newG k h
  · have := D.old.size
    omega
theorem done_solo {w0 w : World} {G : Nat → Prop} {sb : Nat} {S : Sv} (D : Solo w0 w G sb S) {n : Int} (hn : S.done = n) : Calls Try.prog 16 #[.pointer (some ⟨sb, 0, none⟩)] w fun e w' => e = .returned (.int .i64 n) ∧ w = w' := by
  subst hn
  obtain ⟨mb, fm, h1, _⟩ := D.sv.parts
  exact done_any sb S.done w (by rw [cell_of_row w sb 1 _ _ _ h1]; rfl)

abbrev noS0 : Sv := ⟨1, 0, fun _ => []⟩
abbrev noS1 : Sv := (handleS noS0 ⟨1, 1, ⟨#[97]⟩⟩ (some answerS)).1
theorem no_h1 : handleS noS0 ⟨1, 1, ⟨#[97]⟩⟩ none = (noS0, zeroR, false, 6) := by kernel_rfl
theorem no_h2' : (handleS noS0 ⟨1, 1, ⟨#[97]⟩⟩ (some answerS)).2 = (⟨1, 1, ⟨#[60, 97, 62]⟩⟩, true, 0) := by kernel_rfl
theorem no_h2 : handleS noS0 ⟨1, 1, ⟨#[97]⟩⟩ (some answerS) = (noS1, ⟨1, 1, ⟨#[60, 97, 62]⟩⟩, true, 0) := by rw [← no_h2']
theorem no_h3 : handleS noS1 ⟨1, 1, ⟨#[98]⟩⟩ none = (noS1, ⟨1, 1, ⟨#[60, 97, 62]⟩⟩, false, 0) := by kernel_rfl
theorem no_done : noS1.done = 1 := by kernel_rfl
theorem no_done0 : 0 ≤ noS1.done := by rw [no_done]; decide
theorem no_done1 : noS1.done ≤ 1000000 := by rw [no_done]; decide
theorem noS1_ok : SvOk noS1 := handleS_ok (sv_ok 1 (by decide) (by decide)) _ _ (by decide)

attribute [local irreducible] handleS

set_option maxRecDepth 100000 in
set_option maxHeartbeats 1000000 in
theorem nobody_any (t number : Int) (s : ByteArray) (w : World) : Calls Try.prog 7 #[.int .i64 t, .int .i64 number, .string s] w fun e w' => e = .returned (.bool true) ∧ Below w.heap.size w w' := by
  by_cases hs : 4100 < s.size
  · go_enter Try.func7, Try.ntmps7
    go_wp2_with fail
    refine (awake_any _).mono ?_
    rintro e w1 ⟨rfl, hb⟩
    go_wp2_with fail
    go_ret
    exact ⟨rfl, hb⟩
  · go_enter Try.func7, Try.ntmps7
    go_wp2_with fail
    refine (ask_nil t s _).mono ?_
    rintro e w1 ⟨rfl, rfl⟩
    go_wp2_with fail
    refine (reply_nil 1 number s _).mono ?_
    rintro e w2 ⟨rfl, hb2⟩
    go_wp2_with fail
    refine (result_nil number _).mono ?_
    rintro e w3 ⟨rfl, rfl⟩
    go_wp2_with fail
    have hn := handle_nil 1 number s (.func (.func 13) #[] #[]) w2
    unfold zeroRq at hn
    refine hn.mono ?_
    rintro e w4 ⟨rfl, hb4⟩
    have HB := hid ((hb2.trans (hb4.mono hb2.size)).alloc (Nat.le_trans hb2.size hb4.size) (.cells #[.int .i64 0, .int .i64 0, .string ⟨#[]⟩] 37))
    clear hn hb2 hb4
    go_wp2_with fail
    refine (done_nil _).mono ?_
    rintro e w5 ⟨rfl, rfl⟩
    go_wp2_with fail
    refine (poll_nil t _).mono ?_
    rintro e w5 ⟨rfl, rfl⟩
    go_wp2_with fail
    refine (failed_nil t _).mono ?_
    rintro e w5 ⟨rfl, rfl⟩
    go_wp2_with fail
    refine (newServer_ok 1 _ (by decide) (by decide)).mono ?_
    rintro e w5 ⟨rfl, hw5⟩
    have hS := solo_fresh _ _ _ _ HB.out hw5
    simp only [World.size_alloc] at hS
    have HS := hid hS
    clear hw5 hS
    go_wp2_with fail
    refine (handle_solo HS.out (sv_ok 1 (by decide) (by decide)) (by decide) (by decide) .nilFunc none (.inl ⟨rfl, rfl⟩) ⟨1, 1, ⟨#[97]⟩⟩ (by decide) (by decide) no_h1).mono ?_
    rintro e w6 ⟨rfl, _, G1, hS, _⟩
    have HS := hid (hS.below ((Below.refl w6.heap.size w6).alloc (Nat.le_refl _) (.cells #[.int .i64 0, .int .i64 0, .string ⟨#[]⟩] 37)))
    clear hS
    simp only [zeroR]
    go_wp2_with fail
    refine (handle_solo HS.out (sv_ok 1 (by decide) (by decide)) (by decide) (by decide) (.func (.func 13) #[] #[]) (some answerS) (.inr ⟨rfl, rfl⟩) ⟨1, 1, ⟨#[97]⟩⟩ (by decide) (by decide) no_h2).mono ?_
    rintro e w7 ⟨rfl, _, G2, hS, _⟩
    have HS := hid (hS.below ((Below.refl w7.heap.size w7).alloc (Nat.le_refl _) (.cells #[.int .i64 1, .int .i64 1, .string ⟨#[60, 97, 62]⟩] 37)))
    clear hS
    go_wp2_with fail
    refine (handle_solo HS.out noS1_ok no_done0 no_done1 .nilFunc none (.inl ⟨rfl, rfl⟩) ⟨1, 1, ⟨#[98]⟩⟩ (by decide) (by decide) no_h3).mono ?_
    rintro e w8 ⟨rfl, _, G3, hS, _⟩
    have HS := hid (hS.below ((Below.refl w8.heap.size w8).alloc (Nat.le_refl _) (.cells #[.int .i64 1, .int .i64 1, .string ⟨#[60, 97, 62]⟩] 37)))
    clear hS
    go_wp2_with fail
    refine (done_solo HS.out no_done).mono ?_
    rintro e w9 ⟨rfl, rfl⟩
    go_wp2_with fail
    refine (awake_any _).mono ?_
    rintro e w9 ⟨rfl, hb⟩
    go_wp2_with fail
    go_ret
    exact ⟨rfl, HS.out.old.trans (hb.mono HS.out.old.size)⟩

end Go.Proofs.Ytaglidlibocgpaa
