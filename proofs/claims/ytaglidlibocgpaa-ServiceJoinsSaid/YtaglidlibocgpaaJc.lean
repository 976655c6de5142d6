/-
  The law ServiceJoins's walk.
-/
import Derived.Test.YtaglidlibocgpaaJa
namespace Go.Proofs.Ytaglidlibocgpaa
open Go.RowKit

theorem texts_get (l : List ByteArray) (k : Nat) (h : k < l.length) : (l.map Value.string)[k]? = some (.string l[k]) := by simp [h]
theorem fates_get (l : List Int) (k : Nat) (h : k < l.length) : (l.map (Value.int .u8))[k]? = some (.int .u8 l[k]) := by simp [h]

theorem repS_big {t : ByteArray} (h : 4000 < (answerS t).size) : repS t = ⟨#[]⟩ := by unfold repS clipS; rw [if_pos h]
theorem repS_ok {t : ByteArray} (h : ¬ 4000 < (answerS t).size) : repS t = answerS t := by unfold repS clipS; rw [if_neg h]

attribute [local irreducible] handleS answerS askC pollC replyC resultC repS

/-- The state of the law: the client and the server, while it asks (T: what has been asked). -/
def JoA (w0 : World) (cb sb : Nat) (T : List ByteArray) (wr : World) : Prop :=
  ∃ F G C, Duo w0 wr F G cb sb C ⟨12, 0, fun _ => []⟩ ∧ JC C T
/-- .. and behind. -/
def JoB (w0 : World) (cb sb : Nat) (T : List ByteArray) (wr : World) : Prop :=
  ∃ F G C S, Duo w0 wr F G cb sb C S ∧ JC C T ∧ JS S T

/-- .. and beside them the requests lq, from a slice v. -/
def JoL (w0 : World) (cb sb : Nat) (T : List ByteArray) (v : Value) (lq : List Rq) (wr : World) : Prop :=
  ∃ F G C S, Duo w0 wr F G cb sb C S ∧ JC C T ∧ JS S T ∧ Aside wr F G v lq.length 3 (rqs lq)

theorem jo_step {S : Sv} {T : List ByteArray} {y : Rq} (K : JS S T) (hT : T.length ≤ 12) (hs : ∀ t ∈ T, t.size ≤ 100) (hy : OfCall T y) :
    ∃ S' z b, handleS S y (some answerS) = (S', z, b, 0) ∧ JS S' T ∧ handleS S' y (some answerS) = (S', z, false, 0) ∧ z.text.size ≤ 4000 ∧ (∀ C, JC C T → JC (replyC C z).1 T) ∧ y.number ≤ 9223372036854775807 ∧ y.text.size ≤ 4100 := by
  obtain ⟨j, hj, rfl⟩ := hy
  obtain ⟨S', b, h1, h2, h3⟩ := K.handle hT hs hj
  have := hs T[j] (List.getElem_mem _)
  exact ⟨S', _, b, h1, h2, h3, repS_size _, fun C J => J.reply hj, by dsimp only; omega, by dsimp only; omega⟩

theorem reply_duo {w0 w : World} {F G : Nat → Prop} {cb sb : Nat} {C : Cl} {S : Sv} (D : Duo w0 w F G cb sb C S) (hl : C.calls.length ≤ 1000) (z : Rq) (hs : z.text.size ≤ 4000) :
    Calls Try.prog 20 #[.pointer (some ⟨cb, 0, none⟩), .agg #[.int .i64 z.client, .int .i64 z.number, .string z.text]] w fun e w' => ∃ b er, e = .returned (.tuple #[.bool b, .int .i64 er]) ∧ Duo w0 w' F G cb sb (replyC C z).1 S ∧ ClIn F cb (replyC C z).1 w w' :=
  (reply_at cb F C z w D.cl hl (by unfold maxLen; omega)).mono fun e w' ⟨h1, h2⟩ => ⟨_, _, h1, D.turn h2, h2⟩

theorem one_cells {w : World} {F G : Nat → Prop} {b : Nat} {z : Rq} (A : Aside w F G (.slice (some ⟨b, 0, none⟩) 1 1) 1 3 (rqs [z])) :
    w.cell? ⟨b, 0, none⟩ = some (.int .i64 z.client) ∧ w.cell? ⟨b, 1, none⟩ = some (.int .i64 z.number) ∧ w.cell? ⟨b, 2, none⟩ = some (.string z.text) := by
  obtain ⟨g0, g1, g2⟩ := rqs_get [z] 0 (by simp)
  have c0 := A.reads.cell g0
  have c1 := A.reads.cell g1
  have c2 := A.reads.cell g2
  simp only [Nat.zero_mul, Nat.zero_add, Nat.add_zero] at c0 c1 c2
  exact ⟨c0, c1, c2⟩
theorem at_cells {w : World} {F G : Nat → Prop} {b o n cap : Nat} {lq : List Rq} (A : Aside w F G (.slice (some ⟨b, o, none⟩) n cap) lq.length 3 (rqs lq)) {i : Nat} (hi : i < lq.length) {y : Rq} (hy : y = lq[i]) :
    w.cell? ⟨b, o + i * 3, none⟩ = some (.int .i64 y.client) ∧ w.cell? ⟨b, o + i * 3 + 1, none⟩ = some (.int .i64 y.number) ∧ w.cell? ⟨b, o + i * 3 + 2, none⟩ = some (.string y.text) := by
  subst hy
  obtain ⟨g0, g1, g2⟩ := rqs_get lq i hi
  have c0 := A.reads.cell g0
  have c1 := A.reads.cell g1
  have c2 := A.reads.cell g2
  rw [← Nat.add_assoc] at c1 c2
  exact ⟨c0, c1, c2⟩

set_option maxRecDepth 100000 in
set_option maxHeartbeats 6000000 in
theorem joins_any (l : List ByteArray) (f : List Int) (a a2 : Option Addr) (cap cap2 : Nat) (w : World) (hr : Reads w (.slice a l.length cap) l.length 1 (l.map Value.string)) (hf : Reads w (.slice a2 f.length cap2) f.length 1 (f.map (Value.int .u8)))
    (hlm : ∀ x ∈ l, x.size ≤ maxLen) (hfu : ∀ x ∈ f, 0 ≤ x ∧ x ≤ 255) :
    Calls Try.prog 6 #[.slice a l.length cap, .slice a2 f.length cap2] w fun e w' => e = .returned (.bool true) ∧ Below w.heap.size w w' := by
  obtain ⟨_, _, he, hcl, hml⟩ := hr.shape
  cases he
  obtain ⟨_, _, he, hcf, hmf⟩ := hf.shape
  cases he
  by_cases h12 : 12 < l.length
  · clear hr hf
    go_enter Try.func6, Try.ntmps6
    go_wp2_with fail
    refine (awake_any _).mono ?_
    rintro e w1 ⟨rfl, hb⟩
    go_wp2_with fail
    go_ret
    exact ⟨rfl, hb⟩
  · by_cases h60 : 60 < f.length
    · clear hr hf
      go_enter Try.func6, Try.ntmps6
      go_wp2_with fail
      refine (awake_any _).mono ?_
      rintro e w1 ⟨rfl, hb⟩
      go_wp2_with fail
      go_ret
      exact ⟨rfl, hb⟩
    · have HR := hid hr
      have HF := hid hf
      have HFU := hid hfu
      have HLM := hid hlm
      clear hr hf hfu hlm
      go_enter Try.func6, Try.ntmps6
      go_wp2_with fail
      refine (newClient_ok 3 10 5 _ (by decide) (by decide) (by decide) (by decide) (by decide)).mono ?_
      rintro e w1 ⟨rfl, hw1⟩
      go_wp2_with fail
      refine (newServer_ok 12 _ (by decide) (by decide)).mono ?_
      rintro e w2 ⟨rfl, hw2⟩
      have hz1 : w1.heap.size = w.heap.size + 1 := by rw [← hw1]; simp
      have h0 : JoA w w.heap.size (w1.heap.size + 1) [] w2 := by
        rw [hz1] at hw2 ⊢
        rw [← hw1] at hw2
        exact ⟨_, _, _, duo_fresh w w2 3 10 5 12 hw2, jc_start⟩
      have H0 := hid h0
      clear h0 hw1 hw2
      obtain ⟨cb, hcb⟩ : ∃ cb, cb = w.heap.size := ⟨_, rfl⟩
      obtain ⟨sb, hsb⟩ : ∃ sb, sb = w1.heap.size + 1 := ⟨_, rfl⟩
      rw [← hcb, ← hsb] at H0
      rw [← hcb, ← hsb]
      clear hcb hsb hz1
      go_wp2_with fail
      go_loopg [9] (l.length + 1) (fun g i wr => ∃ k : Nat, i = .int .i64 k ∧ k ≤ l.length ∧ l.length - k < g ∧ JoA w cb sb (l.take k) wr)
      case atStart => exact ⟨0, rfl, by omega, by omega, H0.out⟩
      case round =>
        obtain ⟨k, rfl, hk, hg, hS⟩ := hrel
        by_cases hlt : k < l.length
        · obtain ⟨F, G, C, D, J⟩ := hS
          obtain ⟨b, o, rfl⟩ := HR.out.addr (by omega)
          have hrk := HR.out.below D.old
          have c0 := hrk.cell (texts_get l k hlt)
          have hki : (k : Int) < (l.length : Int) := by omega
          have hxm := HLM.out l[k] (List.getElem_mem _)
          obtain ⟨x, hx⟩ : ∃ x, x = l[k] := ⟨_, rfl⟩
          rw [← hx] at c0 hxm
          have HX := hid hx
          have HD := hid D
          have HJ := hid J
          clear D J hx hrk
          by_cases h100 : 100 < x.size
          · go_wp2_with fail
            refine (awake_any _).mono ?_
            rintro e w3 ⟨rfl, hb⟩
            go_wp2_with fail
            go_ret
            exact ⟨rfl, HD.out.old.trans (hb.mono HD.out.old.size)⟩
          · obtain ⟨C', hask, hJ'⟩ := HJ.out.ask (by simp; omega) (show x.size ≤ 100 by omega)
            have htl : (l.take k).length = k := by simp; omega
            rw [htl] at hask
            have hlen := HJ.out.len
            rw [htl] at hlen
            have hA := ask_duo HD.out (by omega) 0 x (by omega) hask
            have HA := hid hA
            have HJ' := hid hJ'
            clear hlen hask hA hJ' htl
            go_wp2_with fail
            refine HA.out.mono ?_
            rintro e w3 ⟨rfl, F', hD'⟩
            have HD' := hid hD'
            clear hD'
            go_wp2_with fail
            go_roundg (gk - 1)
            case measure => omega
            case rel => exact ⟨k + 1, by go_num, by omega, by omega, F', G, C', HD'.out, by rw [List.take_succ_eq_append_getElem hlt, ← HX.out]; exact HJ'.out⟩
        · have hkl : k = l.length := by omega
          subst hkl
          have hB : JoB w cb sb l wr := by
            obtain ⟨F, G, C, D, J⟩ := hS
            rw [List.take_of_length_le (Nat.le_refl _)] at J
            exact ⟨F, G, C, _, D, J, js_start l⟩
          have HB0 := hid hB
          clear hS hB
          go_wp2_with fail
          go_loopg [12, 13] 6 (fun g va vt wr => ∃ (p q : Nat) (t : Int), va = .int .i64 p ∧ vt = .int .i64 t ∧ 10 * (q : Int) ≤ t ∧ t ≤ 10 * (q : Int) ∧ q ≤ 5 ∧ 5 - q < g ∧ p ≤ f.length ∧ JoB w cb sb l wr)
          case atStart => exact ⟨0, 0, 0, rfl, rfl, by omega, by omega, by omega, by omega, by omega, HB0.out⟩
          case round =>
            obtain ⟨p, q, t, rfl, rfl, ht1, ht2, hq, hg, hp, hS⟩ := hrel
            by_cases hq5 : q < 5
            · obtain ⟨F, G, C, S, D, J, K⟩ := hS
              obtain ⟨C', lq, hpoll, hJ', hll, hmem⟩ := J.poll t
              have ht50 : t < 50 := by omega
              have hP := poll_duo D J.ok t (by omega) hpoll
              have HP := hid hP
              have HJ := hid hJ'
              have HK := hid K
              have HM := hid hmem
              have HG := hid (show 5 - (q + 1) < gk - 1 by omega)
              obtain ⟨g2, hg2⟩ : ∃ g2, g2 = gk - 1 := ⟨_, rfl⟩
              clear D J K hpoll hJ' hmem hP
              go_wp2_with fail
              refine HP.out.mono ?_
              rintro e w3 ⟨av, cv, rfl, hcv, hmv, hA, hcl3, hD⟩
              have HL := hid (show JoL w cb sb l (.slice av lq.length cv) lq w3 from ⟨_, _, _, _, hD, HJ.out, HK.out, hA⟩)
              clear hA hcl3 hD
              go_wp2_with fail
              go_loopg [12, 15] (lq.length + 1) (fun g va vi wr => ∃ (p i : Nat), va = .int .i64 p ∧ vi = .int .i64 i ∧ p ≤ f.length ∧ i ≤ lq.length ∧ lq.length - i < g ∧ JoL w cb sb l (.slice av lq.length cv) lq wr)
              case atStart => exact ⟨p, 0, rfl, rfl, hp, by omega, by omega, HL.out⟩
              case round =>
                obtain ⟨p1, i, rfl, rfl, hp1, hi, hgi, hS⟩ := hrel
                by_cases hil : i < lq.length
                · have HS := hid hS
                  clear hS
                  go_upto_if 104 with fail
                  go_cut [12, 16] (fun s12 s16 wx => ∃ (p' : Nat) (u : Int), s12 = .int .i64 p' ∧ s16 = .int .u8 u ∧ p' ≤ f.length ∧ (u = 0 ∨ u = 1 ∨ u = 2 ∨ u = 3) ∧ wr = wx)
                  case first =>
                    by_cases hpf : p1 < f.length
                    · obtain ⟨F, G, C, S, D, _⟩ := HS.out
                      obtain ⟨b2, o2, rfl⟩ := HF.out.addr (by omega)
                      have hrk := HF.out.below D.old
                      have c0 := hrk.cell (fates_get f p1 hpf)
                      have hpi : (p1 : Int) < (f.length : Int) := by omega
                      obtain ⟨hx0, hx1⟩ := HFU.out f[p1] (List.getElem_mem _)
                      obtain ⟨x, hx⟩ : ∃ x, x = f[p1] := ⟨_, rfl⟩
                      rw [← hx] at c0 hx0 hx1
                      clear D hrk hx
                      go_wp2_with fail
                      go_meet
                      exact ⟨p1 + 1, x % 4, by go_num, rfl, by omega, by omega, rfl⟩
                    · clear hp
                      go_wp2_with fail
                      go_meet
                      exact ⟨p1, 0, rfl, rfl, hp1, by omega, rfl⟩
                  case rest =>
                    obtain ⟨p', u, rfl, rfl, hp', hu, rfl⟩ := hcut
                    rcases hu with rfl | rfl | rfl | rfl
                    · obtain ⟨F, G, C, S, D, J, K, A⟩ := HS.out
                      obtain ⟨b3, o3, rfl⟩ := A.reads.addr (by omega)
                      obtain ⟨y, hy⟩ : ∃ y, y = lq[i] := ⟨_, rfl⟩
                      obtain ⟨c0, c1, c2⟩ := at_cells A hil hy
                      have hki : (i : Int) < (lq.length : Int) := by omega
                      obtain ⟨S', z, b', hh, hK', hh2, hzs, hrep, hyn, hys⟩ := jo_step K (by omega) J.small (hy ▸ HM.out _ (List.getElem_mem _))
                      have hk0 := K.few
                      have H1 := hid (handle_duo2 D K.ok hk0.1 (by omega) y hyn hys hh)
                      have hfew := J.ok.few
                      have HA := hid A
                      have HJJ := hid J
                      have HKK := hid hK'
                      have HREP := hid hrep
                      have HH2 := hid hh2
                      have HY := hid hy
                      clear D J K A hK' hrep hh2 hy hh hk0 HS HL HP
                      go_wp2_with fail
                      refine H1.out.mono ?_
                      rintro e w4 ⟨rfl, G', hD', hu4, hG4⟩
                      have hb5 := (Below.refl w4.heap.size w4).alloc (Nat.le_refl _) (.cells #[.int .i64 z.client, .int .i64 z.number, .string z.text] 37)
                      have HA5 := hid ((HA.out.handle hu4 hG4).below hb5)
                      have HX5 := hid (Aside.box hD' z)
                      have HD5 := hid (hD'.below hb5)
                      obtain ⟨w5, hw5⟩ : ∃ w5, w5 = w4.alloc (.cells #[.int .i64 z.client, .int .i64 z.number, .string z.text] 37) := ⟨_, rfl⟩
                      rw [← hw5] at HA5 HX5 HD5
                      obtain ⟨B17, hB17⟩ : ∃ B17, B17 = w4.heap.size := ⟨_, rfl⟩
                      rw [← hB17] at HX5
                      clear hD' hu4 hG4 hb5 c0 c1 c2
                      have HW5 := hid hw5
                      clear hw5
                      have HB17 := hid hB17
                      clear hB17
                      go_upto_region 29 with fail
                      rw [← HW5.out, ← HB17.out]
                      obtain ⟨x0, x1, x2⟩ := one_cells HX5.out
                      go_wp2_with fail
                      refine (reply_duo HD5.out hfew z hzs).mono ?_
                      rintro e w8 ⟨br, er, rfl, hD8, hcl8⟩
                      have HD8 := hid hD8
                      have HA8 := hid (HA5.out.turn hcl8)
                      clear hD8 hcl8
                      go_wp2_with fail
                      go_roundg (gk - 1)
                      case measure => omega
                      case rel => exact ⟨p', i + 1, rfl, by go_num, hp', by omega, by omega, F, G', (replyC C z).1, S', HD8.out, HREP.out C HJJ.out, HKK.out, HA8.out⟩
                    · go_wp2_with fail
                      go_roundg (gk - 1)
                      case measure => omega
                      case rel => exact ⟨p', i + 1, rfl, by go_num, hp', by omega, by omega, HS.out⟩
                    · obtain ⟨F, G, C, S, D, J, K, A⟩ := HS.out
                      obtain ⟨b3, o3, rfl⟩ := A.reads.addr (by omega)
                      obtain ⟨y, hy⟩ : ∃ y, y = lq[i] := ⟨_, rfl⟩
                      obtain ⟨c0, c1, c2⟩ := at_cells A hil hy
                      have hki : (i : Int) < (lq.length : Int) := by omega
                      obtain ⟨S', z, b', hh, hK', hh2, hzs, hrep, hyn, hys⟩ := jo_step K (by omega) J.small (hy ▸ HM.out _ (List.getElem_mem _))
                      have hk0 := K.few
                      have H1 := hid (handle_duo2 D K.ok hk0.1 (by omega) y hyn hys hh)
                      have hfew := J.ok.few
                      have HA := hid A
                      have HJJ := hid J
                      have HKK := hid hK'
                      have HREP := hid hrep
                      have HH2 := hid hh2
                      have HY := hid hy
                      clear D J K A hK' hrep hh2 hy hh hk0 HS HL HP
                      go_wp2_with fail
                      refine H1.out.mono ?_
                      rintro e w4 ⟨rfl, G', hD', hu4, hG4⟩
                      have hb5 := (Below.refl w4.heap.size w4).alloc (Nat.le_refl _) (.cells #[.int .i64 z.client, .int .i64 z.number, .string z.text] 37)
                      have HA5 := hid ((HA.out.handle hu4 hG4).below hb5)
                      have HX5 := hid (Aside.box hD' z)
                      have HD5 := hid (hD'.below hb5)
                      obtain ⟨w5, hw5⟩ : ∃ w5, w5 = w4.alloc (.cells #[.int .i64 z.client, .int .i64 z.number, .string z.text] 37) := ⟨_, rfl⟩
                      rw [← hw5] at HA5 HX5 HD5
                      obtain ⟨B17, hB17⟩ : ∃ B17, B17 = w4.heap.size := ⟨_, rfl⟩
                      rw [← hB17] at HX5
                      clear hD' hu4 hG4 hb5 c0 c1 c2
                      have HW5 := hid hw5
                      clear hw5
                      have HB17 := hid hB17
                      clear hB17
                      go_upto_region 29 with fail
                      rw [← HW5.out, ← HB17.out]
                      obtain ⟨x0, x1, x2⟩ := one_cells HX5.out
                      go_wp2_with fail
                      go_roundg (gk - 1)
                      case measure => omega
                      case rel => exact ⟨p', i + 1, rfl, by go_num, hp', by omega, by omega, F, G', C, S', HD5.out, HJJ.out, HKK.out, HA5.out⟩
                    · obtain ⟨F, G, C, S, D, J, K, A⟩ := HS.out
                      obtain ⟨b3, o3, rfl⟩ := A.reads.addr (by omega)
                      obtain ⟨y, hy⟩ : ∃ y, y = lq[i] := ⟨_, rfl⟩
                      obtain ⟨c0, c1, c2⟩ := at_cells A hil hy
                      have hki : (i : Int) < (lq.length : Int) := by omega
                      obtain ⟨S', z, b', hh, hK', hh2, hzs, hrep, hyn, hys⟩ := jo_step K (by omega) J.small (hy ▸ HM.out _ (List.getElem_mem _))
                      have hk0 := K.few
                      have H1 := hid (handle_duo2 D K.ok hk0.1 (by omega) y hyn hys hh)
                      have hfew := J.ok.few
                      have HA := hid A
                      have HJJ := hid J
                      have HKK := hid hK'
                      have HREP := hid hrep
                      have HH2 := hid hh2
                      have HY := hid hy
                      clear D J K A hK' hrep hh2 hy hh hk0 HS HL HP
                      go_wp2_with fail
                      refine H1.out.mono ?_
                      rintro e w4 ⟨rfl, G', hD', hu4, hG4⟩
                      have hb5 := (Below.refl w4.heap.size w4).alloc (Nat.le_refl _) (.cells #[.int .i64 z.client, .int .i64 z.number, .string z.text] 37)
                      have HA5 := hid ((HA.out.handle hu4 hG4).below hb5)
                      have HX5 := hid (Aside.box hD' z)
                      have HD5 := hid (hD'.below hb5)
                      obtain ⟨w5, hw5⟩ : ∃ w5, w5 = w4.alloc (.cells #[.int .i64 z.client, .int .i64 z.number, .string z.text] 37) := ⟨_, rfl⟩
                      rw [← hw5] at HA5 HX5 HD5
                      obtain ⟨B17, hB17⟩ : ∃ B17, B17 = w4.heap.size := ⟨_, rfl⟩
                      rw [← hB17] at HX5
                      clear hD' hu4 hG4 hb5 c0 c1 c2
                      have HW5 := hid hw5
                      clear hw5
                      have HB17 := hid hB17
                      clear hB17
                      go_upto_region 29 with fail
                      rw [← HW5.out, ← HB17.out]
                      obtain ⟨x0, x1, x2⟩ := one_cells HX5.out
                      obtain ⟨d0, d1, d2⟩ := at_cells HA5.out hil HY.out
                      have H2 := hid (handle_duo2 HD5.out HKK.out.ok HKK.out.few.1 (by have := HKK.out.few.2; omega) y hyn hys HH2.out)
                      go_wp2_with fail
                      refine H2.out.mono ?_
                      rintro e w6 ⟨rfl, G2, hD', hu4, hG4⟩
                      have hb5 := (Below.refl w6.heap.size w6).alloc (Nat.le_refl _) (.cells #[.int .i64 z.client, .int .i64 z.number, .string z.text] 37)
                      have HA7 := hid ((HA5.out.handle hu4 hG4).below hb5)
                      have HX7 := hid ((HX5.out.handle hu4 hG4).below hb5)
                      have HY7 := hid (Aside.box hD' z)
                      have HD7 := hid (hD'.below hb5)
                      obtain ⟨w7, hw7⟩ : ∃ w7, w7 = w6.alloc (.cells #[.int .i64 z.client, .int .i64 z.number, .string z.text] 37) := ⟨_, rfl⟩
                      rw [← hw7] at HA7 HX7 HY7 HD7
                      obtain ⟨B20, hB20⟩ : ∃ B20, B20 = w6.heap.size := ⟨_, rfl⟩
                      rw [← hB20] at HY7
                      clear hD' hu4 hG4 hb5 d0 d1 d2 x0 x1 x2
                      have HW7 := hid hw7
                      clear hw7
                      have HB20 := hid hB20
                      clear hB20
                      go_upto_region 31 with fail
                      rw [← HW7.out, ← HB20.out]
                      obtain ⟨x0, x1, x2⟩ := one_cells HX7.out
                      obtain ⟨y0, y1, y2⟩ := one_cells HY7.out
                      go_wp2_with fail
                      refine (reply_duo HD7.out hfew z hzs).mono ?_
                      rintro e w8 ⟨br, er, rfl, hD8, hcl8⟩
                      have HD8 := hid hD8
                      have HA8 := hid (HA7.out.turn hcl8)
                      clear hD8 hcl8
                      go_wp2_with fail
                      go_roundg (gk - 1)
                      case measure => omega
                      case rel => exact ⟨p', i + 1, rfl, by go_num, hp', by omega, by omega, F, G2, (replyC C z).1, S', HD8.out, HREP.out C HJJ.out, HKK.out, HA8.out⟩
                · have HS := hid hS
                  clear hS
                  go_wp2_with fail
                  go_roundg g2
                  case measure => omega
                  case rel =>
                    obtain ⟨F, G, C, S, D, J, K, _⟩ := HS.out
                    exact ⟨p1, q + 1, t + 10, rfl, by go_num, by omega, by omega, by omega, by rw [hg2]; exact HG.out, hp1, F, G, C, S, D, J, K⟩
            · have ht50 : ¬ t < 50 := by omega
              obtain ⟨F, G, C, S, D, J, K⟩ := hS
              have hdd : decide ((l.length : Int) < S.done) = false := by have := K.few.2; simp; omega
              have hfew := J.ok.few
              have HD := hid D
              have HJ := hid J
              clear D J K
              go_wp2_with fail
              refine (done_duo HD.out).mono ?_
              rintro e w3 ⟨rfl, rfl⟩
              go_wp2_with fail
              obtain ⟨w9, hw9⟩ : ∃ w9, w9 = wr := ⟨_, rfl⟩
              rw [← hw9] at HD ⊢
              clear hw9
              go_loopg [23] (l.length + 1) (fun g vi wr => ∃ i : Nat, vi = .int .i64 i ∧ i ≤ l.length ∧ l.length - i < g ∧ Below w9.heap.size w9 wr)
              case atStart => exact ⟨0, rfl, by omega, by omega, Below.refl _ _⟩
              case round =>
                obtain ⟨i, rfl, hi, hgi, hb⟩ := hrel
                by_cases hil : i < l.length
                · obtain ⟨b3, o3, rfl⟩ := HR.out.addr (by omega)
                  have hrk := HR.out.below (HD.out.below hb).old
                  have c0 := hrk.cell (texts_get l i hil)
                  have hki : (i : Int) < (l.length : Int) := by omega
                  have hxs := HJ.out.small l[i] (List.getElem_mem _)
                  have hres := HJ.out.result hil
                  obtain ⟨x, hx⟩ : ∃ x, x = l[i] := ⟨_, rfl⟩
                  rw [← hx] at c0 hxs hres
                  have HRES := hid hres
                  have HDB := hid (HD.out.below hb)
                  have HBB := hid hb
                  clear hrk hx hres hb
                  go_wp2_with fail
                  refine (answer_any x _ (by omega)).mono ?_
                  rintro e w4 ⟨rfl, rfl⟩
                  go_upto_if 172 with fail
                  go_cut [24] (fun s24 wx => s24 = .string (repS x) ∧ wr = wx)
                  case first =>
                    by_cases hbig : 4000 < (answerS x).size
                    · have HT := hid (repS_big hbig)
                      go_wp2_with fail
                      go_meet
                      exact ⟨by rw [HT.out], rfl⟩
                    · have HT := hid (repS_ok hbig)
                      go_wp2_with fail
                      go_meet
                      exact ⟨by rw [HT.out], rfl⟩
                  case rest =>
                    obtain ⟨rfl, rfl⟩ := hcut
                    rcases HRES.out with h | h
                    all_goals
                      have HC := hid (result_duo HDB.out hfew ((i : Int) + 1) h)
                      clear h
                      go_wp2_with fail
                      refine HC.out.mono ?_
                      rintro e w4 ⟨rfl, rfl⟩
                      go_wp2_with fail
                      go_roundg (gk - 1)
                      case measure => omega
                      case rel => exact ⟨i + 1, by go_num, by omega, by omega, HBB.out⟩
                · have HDB := hid (HD.out.below hb)
                  clear hb
                  go_wp2_with fail
                  refine (awake_any _).mono ?_
                  rintro e w4 ⟨rfl, hb4⟩
                  go_wp2_with fail
                  go_ret
                  exact ⟨rfl, HDB.out.old.trans (hb4.mono HDB.out.old.size)⟩

end Go.Proofs.Ytaglidlibocgpaa
