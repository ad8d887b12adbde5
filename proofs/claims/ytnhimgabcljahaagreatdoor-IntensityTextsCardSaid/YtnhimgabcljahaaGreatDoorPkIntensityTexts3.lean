/- Parts of one proof, joined: The reference's sameInts and Same of tables (sewershedref19) at two that are equal: each returns true; nothing that was there is turned. (Printed by gen_itr.py.). The program's Scale of a table that is not valid, or by numbers out of range: the specified errors; nothing that was there is turned. (Printed by gen_itr.py.). The law IntensityTexts returns true for every table, every two numbers and every text; nothing that was there is turned. (By hand.). -/
import Derived.Test.YtnhimgabcljahaaGreatDoorItVal
import Derived.Test.YtnhimgabcljahaaGreatDoorOwnQ
import Derived.Test.YtnhimgabcljahaaGreatDoorItPr
import Derived.Test.YtnhimgabcljahaaGreatDoorItTx
import Derived.Test.YtnhimgabcljahaaGreatDoorItAwk
import Derived.Test.YtnhimgabcljahaaGreatDoorPkIntensityTexts2
import Derived.Test.YtnhimgabcljahaaGreatDoorPkIntensityTexts1
import Derived.Stop.LaidErr
namespace Go.Proofs.YtnhimgabcljahaaGreatDoor
open Go.RowKit

set_option maxHeartbeats 2000000 in
theorem rsameI_any (l : List Int) (A B : Option Addr) (c c' : Nat) (w : World) (hl : IntSl w A l) (hm : IntSl w B l) :
    Calls Tryz.prog 24 #[.slice A l.length c, .slice B l.length c'] w fun e w' => e = .returned (.bool true) ∧ Below w.heap.size w w' := by
  have hlen : l.length ≤ 9223372036854775807 := hl.1.1
  have HL := hide hl
  have HM := hide hm
  clear hl hm
  go_enter Tryz.func24, Tryz.ntmps24
  go_wp2
  go_loopw [5] (fun v wr => ∃ k : Nat, k ≤ l.length ∧ v = .int .i64 k ∧ Hid (Below w.heap.size w wr)) (fun v _ => l.length - (intOf v).toNat)
  case atStart => exact ⟨0, Nat.zero_le _, rfl, hide (Below.refl _ _)⟩
  case round =>
    obtain ⟨k, hk, rfl, HB⟩ := hrel
    by_cases hlt : k < l.length
    · have g2 : decide (k < l.length) = true := decide_eq_true hlt
      have g3 : (0 : Int) ≤ (k : Int) := by omega
      have g4 : (k : Int) < (l.length : Int) := by omega
      obtain ⟨b, off, rfl, hb1, hat⟩ := HL.out.2 (by omega)
      obtain ⟨b', off', rfl, hb2, hat'⟩ := HM.out.2 (by omega)
      have NE : Nonempty (OwnW w []) := ⟨⟨_, Own.start w⟩⟩
      have C1 := fun z : OwnW w [] => (z.own.1.cell (p := ⟨b, off + k, none⟩) hb1).trans (hat k hlt)
      have C2 := fun z : OwnW w [] => (z.own.1.cell (p := ⟨b', off' + k, none⟩) hb2).trans (hat' k hlt)
      clear hat hat'
      generalize l[k] = x at *
      have q1 : (x == x) = true := by simp
      have q2 : (x != x) = false := by simp [bne]
      go_wp2_with fail
      refine wp_region_own (w := w) (L := []) (by kernel_rfl) (by kernel_rfl) ⟨HB.out, fun _ h => by cases h⟩ ?_
      repeat (go_big_quiet_step (fail))
      refine wpQuiet_nil ?_
      rintro W3 ⟨⟨W3, HO⟩, rfl⟩
      have HB3 := hide HO.1
      clear NE C1 C2 HO
      go_wp2
      go_roundw
      case rel => exact ⟨k + 1, by omega, by go_num, HB3⟩
      case measure => simp [intOf]; omega
    · have g2 : decide (k < l.length) = false := decide_eq_false hlt
      go_wp2
      go_ret
      exact ⟨rfl, HB.out⟩
set_option maxHeartbeats 2000000 in
theorem rsame19_any (T : Tab) (a b : TabA) (w : World) (ha : TabSl w T a) (hb : TabSl w T b) : Calls Tryz.prog 8 #[T.val a, T.val b] w fun e w' => e = .returned (.bool true) ∧ Below w.heap.size w w' := by
  obtain ⟨A1, A2, A3, c1, c2, c3⟩ := a
  obtain ⟨B1, B2, B3, d1, d2, d3⟩ := b
  have X0 := ((Own.start w).alloc #[.slice A1 T.ds.length c1, .slice A2 T.ps.length c2, .slice A3 T.rows.length c3] 25).alloc #[.slice B1 T.ds.length d1, .slice B2 T.ps.length d2, .slice B3 T.rows.length d3] 25
  rw [World.size_alloc] at X0
  have X := hide X0
  clear X0
  have HA := hide ha
  have HC := hide hb
  have S1 := hide (fun W (h : Below w.heap.size w W) => rsameI_any T.ds A1 B1 c1 d1 W (ha.1.below h) (hb.1.below h))
  have S2 := hide (fun W (h : Below w.heap.size w W) => rsameI_any T.ps A2 B2 c2 d2 W (ha.2.1.below h) (hb.2.1.below h))
  have lr : T.rows.length ≤ 9223372036854775807 := by have := ha.2.2.1.1; unfold maxLen at this; omega
  clear ha hb
  have hr := X.out.r2
  go_enter Tryz.func8, Tryz.ntmps8
  go_wp2_with fail
  refine (S1.out _ X.out.1).mono ?_
  rintro e w1 ⟨rfl, h1⟩
  have X1 := hide (X.out.to h1)
  clear hr X h1 S1
  have hr := X1.out.r2
  go_wp2_with fail
  refine (S2.out _ X1.out.1).mono ?_
  rintro e w2 ⟨rfl, h2⟩
  have X2 := hide (X1.out.to h2)
  clear hr X1 h2 S2
  have hr := X2.out.r2
  go_wp2
  clear hr
  go_loopw [5] (fun v wr => ∃ k : Nat, k ≤ T.rows.length ∧ v = .int .i64 k ∧ Hid (Own w wr [(w.heap.size + 1, 25, #[.slice B1 T.ds.length d1, .slice B2 T.ps.length d2, .slice B3 T.rows.length d3]), (w.heap.size, 25, #[.slice A1 T.ds.length c1, .slice A2 T.ps.length c2, .slice A3 T.rows.length c3])])) (fun v _ => T.rows.length - (intOf v).toNat)
  case atStart => exact ⟨0, Nat.zero_le _, rfl, X2⟩
  case round =>
    clear X2
    obtain ⟨k, hk, rfl, HX⟩ := hrel
    have hr := HX.out.r2
    by_cases hlt : k < T.rows.length
    · have g2 : decide (k < T.rows.length) = true := decide_eq_true hlt
      have g3 : (0 : Int) ≤ (k : Int) := by omega
      have g4 : (k : Int) < (T.rows.length : Int) := by omega
      obtain ⟨p, off, R, r1, rfl, hp, hc, hs⟩ := HA.out.2.2.1.row hlt
      obtain ⟨p', off', R', r2, rfl, hp', hc', hs'⟩ := HC.out.2.2.1.row hlt
      generalize T.rows.getD k [] = row at *
      go_wp2_with fail
      clear hr
      have NE : Nonempty (OwnW w [(w.heap.size + 1, 25, #[.slice B1 T.ds.length d1, .slice B2 T.ps.length d2, .slice (some ⟨p', off', none⟩) T.rows.length d3]), (w.heap.size, 25, #[.slice A1 T.ds.length c1, .slice A2 T.ps.length c2, .slice (some ⟨p, off, none⟩) T.rows.length c3])]) := ⟨⟨_, HX.out⟩⟩
      have C0 := fun z : OwnW w [(w.heap.size + 1, 25, #[.slice B1 T.ds.length d1, .slice B2 T.ps.length d2, .slice (some ⟨p', off', none⟩) T.rows.length d3]), (w.heap.size, 25, #[.slice A1 T.ds.length c1, .slice A2 T.ps.length c2, .slice (some ⟨p, off, none⟩) T.rows.length c3])] => z.own.r2
      have C1 := fun z : OwnW w [(w.heap.size + 1, 25, #[.slice B1 T.ds.length d1, .slice B2 T.ps.length d2, .slice (some ⟨p', off', none⟩) T.rows.length d3]), (w.heap.size, 25, #[.slice A1 T.ds.length c1, .slice A2 T.ps.length c2, .slice (some ⟨p, off, none⟩) T.rows.length c3])] => (z.own.1.cell (p := ⟨p, off + k, none⟩) hp).trans hc
      have C2 := fun z : OwnW w [(w.heap.size + 1, 25, #[.slice B1 T.ds.length d1, .slice B2 T.ps.length d2, .slice (some ⟨p', off', none⟩) T.rows.length d3]), (w.heap.size, 25, #[.slice A1 T.ds.length c1, .slice A2 T.ps.length c2, .slice (some ⟨p, off, none⟩) T.rows.length c3])] => (z.own.1.cell (p := ⟨p', off' + k, none⟩) hp').trans hc'
      have K1 := fun z : OwnW w [(w.heap.size + 1, 25, #[.slice B1 T.ds.length d1, .slice B2 T.ps.length d2, .slice (some ⟨p', off', none⟩) T.rows.length d3]), (w.heap.size, 25, #[.slice A1 T.ds.length c1, .slice A2 T.ps.length c2, .slice (some ⟨p, off, none⟩) T.rows.length c3])] => rsameI_any row R R' r1 r2 z.W (hs.below z.own.1) (hs'.below z.own.1)
      refine wp_region_own (w := w) (L := [(w.heap.size + 1, 25, #[.slice B1 T.ds.length d1, .slice B2 T.ps.length d2, .slice (some ⟨p', off', none⟩) T.rows.length d3]), (w.heap.size, 25, #[.slice A1 T.ds.length c1, .slice A2 T.ps.length c2, .slice (some ⟨p, off, none⟩) T.rows.length c3])]) (by kernel_rfl) (by kernel_rfl) HX.out ?_
      repeat (go_big_quiet_step ((rename_i z; with_reducible exact own_call (K1 z))))
      refine wpQuiet_nil ?_
      rintro W3 ⟨⟨W3, HO⟩, rfl⟩
      have HX3 := hide HO
      clear NE C0 C1 C2 K1 HO
      go_wp2
      go_roundw
      case rel => exact ⟨k + 1, by omega, by go_num, HX3⟩
      case measure => simp [intOf]; omega
    · have g2 : decide (k < T.rows.length) = false := decide_eq_false hlt
      go_wp2
      go_ret
      exact ⟨rfl, HX.out.1⟩
end Go.Proofs.YtnhimgabcljahaaGreatDoor

namespace Go.Proofs.YtnhimgabcljahaaGreatDoor
open Go.RowKit

def ScNo (er : Int) (w : World) (e : Ending) (w' : World) : Prop := e = .returned (.tuple #[.agg #[.slice none 0 0, .slice none 0 0, .slice none 0 0], .int .i64 er]) ∧ Below w.heap.size w w'
set_option maxHeartbeats 2000000 in
theorem scale_bad (T : Tab) (a : TabA) (num den : Int) (w : World) (ht : TabSl w T a) (hv : vT T = false) : Calls Tryz.prog 9 #[T.val a, .int .i64 num, .int .i64 den] w (ScNo 1 w) := by
  obtain ⟨A1, A2, A3, k1, k2, k3⟩ := a
  have X := ((Own.start w).alloc #[.slice A1 T.ds.length k1, .slice A2 T.ps.length k2, .slice A3 T.rows.length k3] 25).alloc #[.slice none 0 0, .slice none 0 0, .slice none 0 0] 25
  simp only [World.size_alloc] at X
  have V := hide (tvalid_any T ⟨A1, A2, A3, k1, k2, k3⟩ _ (ht.below X.1))
  unfold BoolPost at V
  rw [hv] at V
  have hr := X.r2
  clear ht hv
  go_enter Tryz.func9, Tryz.ntmps9
  go_wp2_with fail
  refine V.out.mono ?_
  rintro e w1 ⟨rfl, hb⟩
  have X1 := hide (X.to hb)
  clear hb hr X V
  have hr := X1.out.r2
  go_wp2
  exact bodyPost_ret (v := .tuple #[.agg #[.slice none 0 0, .slice none 0 0, .slice none 0 0], .int .i64 1]) (by simp [results, Tryz.results9, hr, go_sem]) rfl ⟨rfl, by have HX1 := X1.out.1; have hz := HX1.size; go_grown⟩
set_option maxHeartbeats 2000000 in
theorem scale_rng (T : Tab) (a : TabA) (num den : Int) (w : World) (ht : TabSl w T a) (hv : vT T = true) (hn : ¬ ((1 ≤ num ∧ num ≤ 1000000) ∧ 1 ≤ den ∧ den ≤ 1000000)) : Calls Tryz.prog 9 #[T.val a, .int .i64 num, .int .i64 den] w (ScNo 2 w) := by
  obtain ⟨A1, A2, A3, k1, k2, k3⟩ := a
  have X := ((Own.start w).alloc #[.slice A1 T.ds.length k1, .slice A2 T.ps.length k2, .slice A3 T.rows.length k3] 25).alloc #[.slice none 0 0, .slice none 0 0, .slice none 0 0] 25
  simp only [World.size_alloc] at X
  have V := hide (tvalid_any T ⟨A1, A2, A3, k1, k2, k3⟩ _ (ht.below X.1))
  unfold BoolPost at V
  rw [hv] at V
  have ways : decide (num < 1) = true ∨ (decide (num < 1) = false ∧ decide (1000000 < num) = true) ∨ (decide (num < 1) = false ∧ decide (1000000 < num) = false ∧ decide (den < 1) = true) ∨ (decide (num < 1) = false ∧ decide (1000000 < num) = false ∧ decide (den < 1) = false ∧ decide (1000000 < den) = true) := by
    simp only [decide_eq_true_eq, decide_eq_false_iff_not]
    omega
  have hr := X.r2
  clear ht hv hn
  rcases ways with q1 | ⟨q1, q2⟩ | ⟨q1, q2, q3⟩ | ⟨q1, q2, q3, q4⟩
  all_goals
    go_enter Tryz.func9, Tryz.ntmps9
    go_wp2_with fail
    refine V.out.mono ?_
    rintro e w1 ⟨rfl, hb⟩
    have X1 := hide (X.to hb)
    clear hb hr X V
    have hr := X1.out.r2
    go_wp2
    exact bodyPost_ret (v := .tuple #[.agg #[.slice none 0 0, .slice none 0 0, .slice none 0 0], .int .i64 2]) (by simp [results, Tryz.results9, hr, go_sem]) rfl ⟨rfl, by have HX1 := X1.out.1; have hz := HX1.size; go_grown⟩
end Go.Proofs.YtnhimgabcljahaaGreatDoor

namespace Go.Proofs.YtnhimgabcljahaaGreatDoor
open Go Go.RowKit

/-- the numbers that Scale takes -/
def rgS (num den : Int) : Prop := (1 ≤ num ∧ num ≤ 1000000) ∧ 1 ≤ den ∧ den ≤ 1000000
instance (num den : Int) : Decidable (rgS num den) := by unfold rgS; infer_instance
/-- what Scale answers -/
def scR (T : Tab) (num den : Int) : Tab × Int := if vT T = true then (if rgS num den then (if scB T num den = true then (T0, 5) else (scT T num den, 0)) else (T0, 2)) else (T0, 1)
def ScAny (T : Tab) (num den : Int) (w : World) (e : Ending) (w' : World) : Prop := Below w.heap.size w w' ∧ ∃ a : TabA, e = .returned (.tuple #[(scR T num den).1.val a, .int .i64 (scR T num den).2]) ∧ TabSl w' (scR T num den).1 a
theorem ScNo.any {T : Tab} {num den er : Int} {w w' : World} {e : Ending} (hs : scR T num den = (T0, er)) (h : ScNo er w e w') : ScAny T num den w e w' := by
  obtain ⟨rfl, hb⟩ := h
  exact ⟨hb, aN, by rw [hs]; rfl, by rw [hs]; exact tabN _⟩
theorem ScPost.any {T : Tab} {num den : Int} {w w' : World} {e : Ending} (hv : vT T = true) (hr : rgS num den) (h : ScPost T num den w e w') : ScAny T num den w e w' := by
  obtain ⟨hb, ⟨h1, a, rfl, h2⟩ | ⟨h1, rfl⟩⟩ := h
  · have hs : scR T num den = (scT T num den, 0) := by unfold scR; rw [if_pos hv, if_pos hr, if_neg (by rw [h1]; simp)]
    exact ⟨hb, a, by rw [hs], by rw [hs]; exact h2⟩
  · have hs : scR T num den = (T0, 5) := by unfold scR; rw [if_pos hv, if_pos hr, if_pos h1]
    exact ⟨hb, aN, by rw [hs]; rfl, by rw [hs]; exact tabN _⟩
theorem scR_bad {T : Tab} {num den : Int} (hv : vT T = false) : scR T num den = (T0, 1) := by unfold scR; rw [if_neg (by rw [hv]; simp)]
theorem scR_rng {T : Tab} {num den : Int} (hv : vT T = true) (hn : ¬ rgS num den) : scR T num den = (T0, 2) := by unfold scR; rw [if_pos hv, if_neg hn]
theorem scale_all (T : Tab) (a : TabA) (num den : Int) (w : World) (ht : TabSl w T a) : Calls Tryz.prog 9 #[T.val a, .int .i64 num, .int .i64 den] w (ScAny T num den w) := by
  cases hv : vT T with
  | false => exact (scale_bad T a num den w ht hv).mono fun e w' h => ScNo.any (scR_bad hv) h
  | true =>
    by_cases hn : rgS num den
    · exact (scale_any T a num den w ht hv hn.1 hn.2).mono fun e w' h => ScPost.any hv hn h
    · exact (scale_rng T a num den w ht hv hn).mono fun e w' h => ScNo.any (scR_rng hv hn) h
theorem colT_pos {n : Int} (h : 0 < n) : colT n = 1 := by unfold colT; rw [if_neg (by omega)]
set_option maxRecDepth 100000 in
set_option maxHeartbeats 4000000 in
theorem texts19_law (T : Tab) (a : TabA) (num den : Int) (s : ByteArray) (w : World) (ht : TabSl w T a) (hx : TxtW w) : Calls Tryz.prog 3 #[T.val a, .int .i64 num, .int .i64 den, .string s] w (BoolPost true w) := by
  obtain ⟨A1, A2, A3, c1, c2, c3⟩ := a
  have X := hide ((Own.start w).alloc #[.slice A1 T.ds.length c1, .slice A2 T.ps.length c2, .slice A3 T.rows.length c3] 25)
  have AW := hide (fun W => awake_any W)
  have LG := hide (fun W (hb : Below w.heap.size w W) => large_any T ⟨A1, A2, A3, c1, c2, c3⟩ W (ht.below hb))
  have P1 : Hid (s.size ≤ 900000 → ∀ W, TxtW W → Calls Tryz.prog 6 #[.string s] W (PrtPost s.data.toList W)) := hide (fun h W hW => by
    have := itparse_any s.data.toList W (by simpa using h) hW
    rw [strV_data] at this
    exact this)
  have P2 := hide (fun (h : s.size ≤ 900000) W => rparse19_any s W h)
  have LN : Hid (0 ≤ (prF s.data.toList).2.1) := hide (prF_line _)
  have TX := hide (fun W (hb : Below w.heap.size w W) hW => ittext_any T ⟨A1, A2, A3, c1, c2, c3⟩ W (ht.below hb) hW)
  have VL := hide (fun W (hb : Below w.heap.size w W) => rfvalid_any T ⟨A1, A2, A3, c1, c2, c3⟩ W (ht.below hb))
  have RT := hide (fun (h : vT T = true) W (hb : Below w.heap.size w W) => rtext19_any T ⟨A1, A2, A3, c1, c2, c3⟩ W (ht.below hb) h)
  have SC := hide (fun W (hb : Below w.heap.size w W) => scale_all T ⟨A1, A2, A3, c1, c2, c3⟩ num den W (ht.below hb))
  have RS := hide (fun (hv : vT T = true) (hn : rgS num den) W (hb : Below w.heap.size w W) => (rscale19_any T ⟨A1, A2, A3, c1, c2, c3⟩ num den W (ht.below hb) hv hn.1 hn.2).mono fun e w' h => ScPost.any hv hn h)
  have SM := hide (fun (T' : Tab) a' b' W (h : TabSl W T' a') (h' : TabSl W T' b') => rsame19_any T' a' b' W h h')
  have SB : Hid (vT T = false → scR T num den = (T0, 1)) := hide scR_bad
  have SR : Hid (vT T = true → ¬ rgS num den → scR T num den = (T0, 2)) := hide scR_rng
  have HT := hide (hx.below X.out.1)
  clear ht hx
  have hr := X.out.r1
  unfold BoolPost at LG VL
  unfold TtPost at TX
  unfold RetV at RT
  unfold ScAny at SC RS
  go_enter Tryz.func3, Tryz.ntmps3
  go_wp2_with fail
  refine (AW.out _).mono ?_
  rintro e w1 ⟨rfl, hb⟩
  replace X := hide (X.out.to hb)
  replace HT := hide (HT.out.below hb)
  clear hb AW hr
  have hr := X.out.r1
  have hsz : Hid (decide ((262154 : Int) < (s.size : Int)) = false → s.size ≤ 900000) := hide (fun h => by have := of_decide_eq_false h; omega)
  generalize hd1 : decide ((2000 : Int) < (s.size : Int)) = d1 at *
  generalize hd2 : decide ((s.size : Int) ≤ 262144) = d2 at *
  generalize hd3 : decide ((262154 : Int) < (s.size : Int)) = d3 at *
  go_upto_region 3 with (fail)
  go_cut [40] (fun v wx => ∃ b : Bool, v = .bool b ∧ Hid ((b = false → d3 = false) ∧ Own w wx [(w.heap.size, 25, #[.slice A1 T.ds.length c1, .slice A2 T.ps.length c2, .slice A3 T.rows.length c3])] ∧ TxtW wx))
  case first =>
    clear P1 P2 LN TX VL RT SC RS SM SB SR hsz
    go_wp2_with fail
    refine (LG.out _ X.out.1).mono ?_
    rintro e w2 ⟨rfl, hb⟩
    replace X := hide (X.out.to hb)
    replace HT := hide (HT.out.below hb)
    clear hb LG hr
    have Y := hide (And.intro X.out HT.out)
    cases bigT T with
    | true =>
      go_wp2_with fail
      go_meet
      exact ⟨_, rfl, hide ⟨(fun h => by cases h), Y.out⟩⟩
    | false =>
      cases d1 <;> cases d2 <;> cases d3
      all_goals
        go_wp2_with fail
        go_meet
        first | exact ⟨_, rfl, hide ⟨(fun _ => by trivial), Y.out⟩⟩ | exact ⟨_, rfl, hide ⟨(fun h => by cases h), Y.out⟩⟩
  case rest =>
    obtain ⟨b, rfl, Y⟩ := hcut
    clear X HT hd1 hd2 hd3 hr LG
    cases b with
    | true =>
      clear hsz
      have Z := hide Y.out.2.1.1
      clear Y
      go_wp2
      go_ret
      exact ⟨rfl, Z.out⟩
    | false =>
      have X := hide Y.out.2.1
      have HT := hide Y.out.2.2
      have h9 := hsz.out (Y.out.1 rfl)
      have P1' := hide (P1.out h9)
      have P2' := hide (P2.out h9)
      clear Y hsz P1 P2 h9
      unfold PrtPost at P1'
      unfold RptPost at P2'
      have CL : Hid ((0 < (prF s.data.toList).2.1 → colT (prF s.data.toList).2.1 = 1) ∧ (¬ 0 < (prF s.data.toList).2.1 → (prF s.data.toList).2.1 = 0 ∧ colT (prF s.data.toList).2.1 = 0)) := hide ⟨colT_pos, fun h => by
        have e : (prF s.data.toList).2.1 = 0 := by have := LN.out; omega
        exact ⟨e, by rw [e]; rfl⟩⟩
      clear LN
      generalize (prF s.data.toList).1 = T1 at *
      generalize colT (prF s.data.toList).2.1 = cl at *
      generalize (prF s.data.toList).2.1 = ln at *
      generalize (prF s.data.toList).2.2 = er at *
      have hr := X.out.r1
      go_wp2_with fail
      refine (P1'.out _ HT.out).mono ?_
      rintro e w3 ⟨hb, ⟨B1, B2, B3, d1, d2, d3⟩, rfl, hT1⟩
      have L1 := hide ((X.out.to hb).2 (w.heap.size, 25, #[.slice A1 T.ds.length c1, .slice A2 T.ps.length c2, .slice A3 T.rows.length c3]) (by simp)).lt
      have B1' := hide (((Below.refl w3.heap.size w3).alloc (Nat.le_refl _) (.cells #[.slice B1 T1.ds.length d1, .slice B2 T1.ps.length d2, .slice B3 T1.rows.length d3] 25)).alloc (by simp) (.cells #[.int .i64 ln, .int .i64 cl] 29))
      have X0 := ((X.out.to hb).alloc #[.slice B1 T1.ds.length d1, .slice B2 T1.ps.length d2, .slice B3 T1.rows.length d3] 25).alloc #[.int .i64 ln, .int .i64 cl] 29
      rw [World.size_alloc] at X0
      have X1 := hide X0
      have hT1' := hide (hT1.below B1'.out)
      replace HT := hide ((HT.out.below hb).below B1'.out)
      clear hb hr P1' X hT1 B1' X0
      have hr := X1.out.r3
      go_wp2_with fail
      refine (P2'.out _).mono ?_
      rintro e w4 ⟨hb, ⟨E1, E2, E3, g1, g2, g3⟩, rfl, hT2⟩
      have Y0 := ((Own.start w4).alloc #[.slice E1 T1.ds.length g1, .slice E2 T1.ps.length g2, .slice E3 T1.rows.length g3] 25).alloc #[.int .i64 0, .int .i64 0] 29
      have X0 := ((X1.out.to hb).alloc #[.slice E1 T1.ds.length g1, .slice E2 T1.ps.length g2, .slice E3 T1.rows.length g3] 25).alloc #[.int .i64 0, .int .i64 0] 29
      have Y1 := ((Own.start w4).alloc #[.slice E1 T1.ds.length g1, .slice E2 T1.ps.length g2, .slice E3 T1.rows.length g3] 25).alloc #[.int .i64 ln, .int .i64 1] 29
      have X2 := ((X1.out.to hb).alloc #[.slice E1 T1.ds.length g1, .slice E2 T1.ps.length g2, .slice E3 T1.rows.length g3] 25).alloc #[.int .i64 ln, .int .i64 1] 29
      rw [World.size_alloc] at X0 Y0 X2 Y1
      have XW := hide X2
      have YW := hide Y1
      have XX := hide X0
      have YY := hide Y0
      have hT1 := hide (hT1'.out.below hb)
      have hT2' := hide hT2
      replace HT := hide (HT.out.below hb)
      have L0 : w.heap.size < w3.heap.size := L1.out
      have L2 : w3.heap.size + 1 + 1 ≤ w4.heap.size := by have := hb.size; simpa using this
      have LE := hide (And.intro L0 L2)
      clear hb hr P2' X1 hT1' hT2 X0 Y0 X2 Y1 L0 L1 L2
      have hr := XX.out.r5
      go_upto_if 55 with (fail)
      go_cut [] (fun wx => Hid (Own w wx [(w4.heap.size + 1, 29, #[.int .i64 ln, .int .i64 cl]), (w4.heap.size, 25, #[.slice E1 T1.ds.length g1, .slice E2 T1.ps.length g2, .slice E3 T1.rows.length g3]), (w3.heap.size + 1, 29, #[.int .i64 ln, .int .i64 cl]), (w3.heap.size, 25, #[.slice B1 T1.ds.length d1, .slice B2 T1.ps.length d2, .slice B3 T1.rows.length d3]), (w.heap.size, 25, #[.slice A1 T.ds.length c1, .slice A2 T.ps.length c2, .slice A3 T.rows.length c3])] ∧ TxtW wx ∧ TabSl wx T1 ⟨B1, B2, B3, d1, d2, d3⟩ ∧ TabSl wx T1 ⟨E1, E2, E3, g1, g2, g3⟩))
      case first =>
        clear TX VL RT SC RS SM SB SR
        generalize hd : decide ((0 : Int) < ln) = d at *
        cases d with
        | true =>
          have hl := of_decide_eq_true hd
          have c := CL.out.1 hl
          subst c
          clear CL hl hd
          have Z1 := hide XW.out
          have Z2 := hide YW.out.1
          clear XX YY XW YW
          go_wp2_with fail
          go_meet
          exact hide ⟨Z1.out, HT.out.below Z2.out, hT1.out.below Z2.out, hT2'.out.below Z2.out⟩
        | false =>
          have hl := of_decide_eq_false hd
          obtain ⟨e, c⟩ := CL.out.2 (by omega)
          have Z2 := hide YY.out.1
          have Z1 := hide (And.intro XX.out (And.intro e c))
          clear CL hl hd e c XX YY XW YW
          go_wp2_with fail
          go_meet
          refine hide ⟨?_, HT.out.below Z2.out, hT1.out.below Z2.out, hT2'.out.below Z2.out⟩
          obtain ⟨z, rfl, rfl⟩ := Z1.out
          exact z
      case rest =>
        clear hr XX YY XW YW HT hT1 hT2' CL
        have XX := hide hcut.out.1
        have HT := hide hcut.out.2.1
        have S1 := hide (SM.out _ _ _ _ hcut.out.2.2.1 hcut.out.2.2.2)
        clear hcut
        have x1 : (ln == ln) = true := by simp
        have x2 : (cl == cl) = true := by simp
        have x3 : (er == er) = true := by simp
        have hr := XX.out.r5
        go_wp2_with fail
        refine S1.out.mono ?_
        rintro e w5 ⟨rfl, hb⟩
        replace XX := hide (XX.out.to hb)
        replace HT := hide (HT.out.below hb)
        clear hb hr S1
        have hr := XX.out.r5
        go_wp2_with fail
        have X := hide XX.out.tail.tail.tail.tail
        clear XX x1 x2 x3
        refine (SC.out _ X.out.1).mono ?_
        rintro e w6 ⟨hb, ⟨K1, K2, K3, k1, k2, k3⟩, rfl, hTS⟩
        generalize hq : scR T num den = Q at *
        obtain ⟨TS, es⟩ := Q
        have SB' : Hid (vT T = false → TS = T0 ∧ es = 1) := hide (fun h => by have := SB.out h; simpa using this)
        have SR' : Hid (vT T = true → ¬ rgS num den → TS = T0 ∧ es = 2) := hide (fun h h' => by have := SR.out h h'; simpa using this)
        have RS' : Hid (vT T = true → rgS num den → ∀ W, Below w.heap.size w W → Calls Tryz.prog 13 #[Tab.val T ⟨A1, A2, A3, c1, c2, c3⟩, .int .i64 num, .int .i64 den] W fun e w' => Below W.heap.size W w' ∧ ∃ a : TabA, e = .returned (.tuple #[TS.val a, .int .i64 es]) ∧ TabSl w' TS a) := hide (fun h h' W hW => RS.out h h' W hW)
        clear SB SR RS
        have B1' := hide ((Below.refl w6.heap.size w6).alloc (Nat.le_refl _) (.cells #[.slice K1 TS.ds.length k1, .slice K2 TS.ps.length k2, .slice K3 TS.rows.length k3] 25))
        have X1 := hide ((X.out.to hb).alloc #[.slice K1 TS.ds.length k1, .slice K2 TS.ps.length k2, .slice K3 TS.rows.length k3] 25)
        have hS := hide (hTS.below B1'.out)
        replace HT := hide ((HT.out.below hb).below B1'.out)
        clear hb hr X hTS B1' SC hq
        have hr := X1.out.r2
        have T2 := hide (TX.out _ X1.out.1 HT.out)
        clear TX
        go_wp2_with fail
        refine T2.out.mono ?_
        rintro e w7 ⟨rfl, hb⟩
        replace X1 := hide (X1.out.to hb)
        replace hS := hide (hS.out.below hb)
        clear hb hr T2 HT
        have hr := X1.out.r2
        go_wp2_with fail
        refine (VL.out _ X1.out.1).mono ?_
        rintro e w8 ⟨rfl, hb⟩
        replace X1 := hide (X1.out.to hb)
        replace hS := hide (hS.out.below hb)
        clear hb hr VL
        have hr := X1.out.r2
        cases hv : vT T with
        | false =>
          obtain ⟨e1, e2⟩ := SB'.out hv
          subst e1 e2
          rw [(tt_bad hv).1, (tt_bad hv).2]
          clear SB' SR' RS' RT hv
          go_wp2_with fail
          refine (SM.out T0 ⟨K1, K2, K3, k1, k2, k3⟩ aN _ hS.out (tabN _)).mono ?_
          rintro e w9 ⟨rfl, hb⟩
          replace X1 := hide (X1.out.to hb)
          clear hb hr SM hS
          go_wp2
          go_ret
          exact ⟨rfl, X1.out.1⟩
        | true =>
          rw [(tt_good hv).1, (tt_good hv).2]
          have RT' := hide (RT.out hv)
          have SR2 := hide (SR'.out hv)
          have RS2 := hide (RS'.out hv)
          clear SB' SR' RS' RT hv
          generalize txT T = tx at *
          have x1 : ((⟨tx.toArray⟩ : ByteArray).toList == (⟨tx.toArray⟩ : ByteArray).toList) = true := by simp
          go_wp2_with fail
          refine (RT'.out _ X1.out.1).mono ?_
          rintro e w9 ⟨rfl, hb⟩
          replace X1 := hide (X1.out.to hb)
          replace hS := hide (hS.out.below hb)
          clear hb hr RT'
          have hr := X1.out.r2
          by_cases hn : rgS num den
          · have RS3 := hide (RS2.out hn)
            have q1 : decide (num < 1) = false := decide_eq_false (by have := hn.1; omega)
            have q2 : decide (1000000 < num) = false := decide_eq_false (by have := hn.1; omega)
            have q3 : decide (den < 1) = false := decide_eq_false (by have := hn.2; omega)
            have q4 : decide (1000000 < den) = false := decide_eq_false (by have := hn.2; omega)
            clear SR2 RS2 hn
            go_wp2_with fail
            refine (RS3.out _ X1.out.1).mono ?_
            rintro e wa ⟨hb, ⟨M1, M2, M3, m1, m2, m3⟩, rfl, hTZ⟩
            have B1' := hide ((Below.refl wa.heap.size wa).alloc (Nat.le_refl _) (.cells #[.slice M1 TS.ds.length m1, .slice M2 TS.ps.length m2, .slice M3 TS.rows.length m3] 25))
            have X2 := hide ((X1.out.to hb).alloc #[.slice M1 TS.ds.length m1, .slice M2 TS.ps.length m2, .slice M3 TS.rows.length m3] 25)
            have S3 := hide (SM.out TS _ _ _ ((hS.out.below hb).below B1'.out) (hTZ.below B1'.out))
            clear hb hr hTZ hS B1' X1 RS3 SM q1 q2 q3 q4 x1
            have hr := X2.out.r3
            have x1 : (es == es) = true := by simp
            go_wp2_with fail
            refine S3.out.mono ?_
            rintro e wb ⟨rfl, hb⟩
            replace X2 := hide (X2.out.to hb)
            clear hb hr S3
            go_wp2
            go_ret
            exact ⟨rfl, X2.out.1⟩
          · obtain ⟨e1, e2⟩ := SR2.out hn
            subst e1 e2
            have ways : decide (num < 1) = true ∨ (decide (num < 1) = false ∧ decide (1000000 < num) = true) ∨ (decide (num < 1) = false ∧ decide (1000000 < num) = false ∧ decide (den < 1) = true) ∨ (decide (num < 1) = false ∧ decide (1000000 < num) = false ∧ decide (den < 1) = false ∧ decide (1000000 < den) = true) := by
              unfold rgS at hn
              simp only [decide_eq_true_eq, decide_eq_false_iff_not]
              omega
            have S3 := hide (SM.out T0 ⟨K1, K2, K3, k1, k2, k3⟩ aN _ hS.out (tabN _))
            clear SR2 RS2 hn SM hS
            rcases ways with q1 | ⟨q1, q2⟩ | ⟨q1, q2, q3⟩ | ⟨q1, q2, q3, q4⟩
            all_goals
              go_wp2_with fail
              refine S3.out.mono ?_
              rintro e wb ⟨rfl, hb⟩
              have X2 := hide (X1.out.to hb)
              clear hb hr S3
              go_wp2
              go_ret
              exact ⟨rfl, X2.out.1⟩
end Go.Proofs.YtnhimgabcljahaaGreatDoor
