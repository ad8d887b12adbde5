/- Parts of one proof, joined: The examples of chapter 48: awake returns true; nothing that was there is turned. The law CostsTexts returns true for every bill and every text; nothing that was there is turned. (Printed by gen_ct.py.). Slices of items as arguments: what a reading of them gives. What the proofs of rows with listed variables import, under one name. Texts in rows: what is laid and the world's shape give what the texts' functions read; the wrap of a row that hands the world's shape on. -/
import Derived.Test.YtlnlaopokelggaaGreatDoorPkCostsTexts19
import Derived.Test.YtlnlaopokelggaaGreatDoorPkCostsTexts17
import Derived.Test.YtlnlaopokelggaaGreatDoorPkCostsTexts18
import Derived.Stop.LaidErr
import Derived.Test.YtlnlaopokelggaaGreatDoorPkCostsTexts14
import Derived.Test.YtlnlaopokelggaaGreatDoorPkCostsTexts8
import Derived.ProofKit
import Derived.LaidMore
import Derived.OpenShut
import Derived.Stop.Joined
import Derived.SevenTiedAt
import Derived.Test.YtlnlaopokelggaaGreatDoorPkCostsTexts2
import Derived.HandedShaped
import Derived.LaidLaws
namespace Go.Proofs.YtlnlaopokelggaaGreatDoor
open Go Go.RowKit

def awM : Msh := ⟨[⟨0, 0, 2000⟩, ⟨20000, 0, 2000⟩, ⟨0, 20000, 2000⟩], [⟨0, 1, 2, 0⟩]⟩
def awP : Pnt := ⟨1000, 1000⟩
def awQ : Pnt := ⟨17000, 1000⟩
def awL : List Itm := [⟨⟨#[97]⟩, 3, 5⟩, ⟨⟨#[98]⟩, -2, 7⟩]
theorem aw_pr : prE 1000 1 10 2 = 0 ∧ (prS 1000 1 10 2).val = .agg #[.int .i64 826, .int .i64 828] := by
  have h : prB 1000 1 10 2 = true := by decide
  unfold prE prS
  rw [if_pos h, if_pos h]
  exact ⟨rfl, rfl⟩
theorem aw_bi : biV awL = 1 ∧ biE awL = 0 := by decide +kernel
theorem aw_ds : dsS awP awQ = ⟨16000, 16000⟩ := by
  have e : sqD awP awQ = 256000000 := by decide +kernel
  have h : isq 256000000 = 16000 := isq_uniq (by omega) (by omega) (by omega) (by omega)
  unfold dsS isqU
  rw [e, h]; rfl
theorem aw_vM : vM awM = true := by decide +kernel
theorem aw_all : allL awM awP awQ 17 = true := by decide +kernel
theorem aw_sm : smL awM awP awQ 1000 1000 17 = 32000 ∧ smH awM awP awQ 1000 1000 17 = 32000 := by decide +kernel
theorem aw_trE : trE awM awP awQ 1000 1000 500 = 0 := by
  unfold trE gvE
  rw [aw_vM, aw_all]
  decide +kernel
theorem aw_tr : (trR awM awP awQ 1000 1000 500).val = .agg #[.int .i64 8000000, .int .i64 8000000] := by
  unfold trR
  rw [if_pos aw_trE]
  unfold trS
  rw [aw_sm.1, aw_sm.2, aw_ds]
  rfl
theorem ItmSl.of_own {w W : World} {b : Nat} {L : List (Nat × TypeId × Array Value)} (h : Own w W ((b, 34, #[.string ⟨#[97]⟩, .int .i64 3, .int .i64 5, .string ⟨#[98]⟩, .int .i64 (-2), .int .i64 7]) :: L)) : ItmSl W (some ⟨b, 0, none⟩) awL := by
  refine ⟨⟨by decide, fun i hi => ?_⟩, fun _ => ⟨b, 0, rfl, h.r1.2.2, fun i hi => ?_⟩⟩
  · have hi' : i < 2 := hi
    match i, hi' with
    | 0, _ => exact (by decide : (⟨#[97]⟩ : ByteArray).size ≤ maxLen)
    | 1, _ => exact (by decide : (⟨#[98]⟩ : ByteArray).size ≤ maxLen)
  · have hi' : i < 2 := hi
    match i, hi' with
    | 0, _ => exact ⟨h.r1.1 0, h.r1.1 1, h.r1.1 2⟩
    | 1, _ => exact ⟨h.r1.1 3, h.r1.1 4, h.r1.1 5⟩
theorem MshSl.of_own {w W : World} {bs bf : Nat} {L : List (Nat × TypeId × Array Value)} (h : Own w W ((bf, 49, #[.int .i64 0, .int .i64 1, .int .i64 2, .int .i64 0]) :: (bs, 46, #[.int .i64 0, .int .i64 0, .int .i64 2000, .int .i64 20000, .int .i64 0, .int .i64 2000, .int .i64 0, .int .i64 20000, .int .i64 2000]) :: L)) : MshSl W awM ⟨some ⟨bs, 0, none⟩, 3, some ⟨bf, 0, none⟩, 1⟩ := by
  refine ⟨⟨⟨by decide, fun i hi => ?_⟩, fun _ => ⟨bs, 0, rfl, h.r2.2.2.2, fun i hi => ?_⟩⟩, ⟨⟨by decide, fun i hi => ?_⟩, fun _ => ⟨bf, 0, rfl, h.r2.1.2.2, fun i hi => ?_⟩⟩⟩
  · have hi' : i < 3 := hi
    match i, hi' with
    | 0, _ => exact (by unfold i64; decide : i64 0 ∧ i64 0 ∧ i64 2000)
    | 1, _ => exact (by unfold i64; decide : i64 20000 ∧ i64 0 ∧ i64 2000)
    | 2, _ => exact (by unfold i64; decide : i64 0 ∧ i64 20000 ∧ i64 2000)
  · have hi' : i < 3 := hi
    match i, hi' with
    | 0, _ => exact ⟨h.r2.2.1 0, h.r2.2.1 1, h.r2.2.1 2⟩
    | 1, _ => exact ⟨h.r2.2.1 3, h.r2.2.1 4, h.r2.2.1 5⟩
    | 2, _ => exact ⟨h.r2.2.1 6, h.r2.2.1 7, h.r2.2.1 8⟩
  · have hi' : i < 1 := hi
    match i, hi' with
    | 0, _ => exact (by unfold i64; decide : i64 0 ∧ i64 1 ∧ i64 2 ∧ i64 0)
  · have hi' : i < 1 := hi
    match i, hi' with
    | 0, _ => exact ⟨h.r2.1.1 0, h.r2.1.1 1, h.r2.1.1 2, h.r2.1.1 3⟩
set_option maxRecDepth 100000 in
set_option maxHeartbeats 4000000 in
theorem awake48_any (w : World) (ht : Lib.TabIs Tryz.prog w "internal/strconv.uint64pow10" .u64 Lib.pow10Tab) : Calls Tryz.prog 4 #[] w (RetW (.bool true) w) := by
  have P := hide (fun W => copresent_any 1000 1 10 2 W)
  rw [aw_pr.1, aw_pr.2] at P
  have B := hide (fun W A c h => cobill_any awL A c W h)
  rw [aw_bi.1, aw_bi.2] at B
  have T := hide (fun W a h h' => cotrench_any awM a awP awQ 1000 1000 500 W h h')
  rw [aw_trE, aw_tr] at T
  unfold RetW at P B T
  have HT := hide ht
  have X := Own.start w
  clear ht
  go_enter Tryz.func4, Tryz.ntmps4
  go_wp2_with fail
  refine (P.out _).mono ?_
  rintro e w1 ⟨rfl, hb⟩
  replace X := ((X.to hb).alloc #[.int .i64 826, .int .i64 828] 40).alloc #[.string ⟨#[97]⟩, .int .i64 3, .int .i64 5, .string ⟨#[98]⟩, .int .i64 (-2), .int .i64 7] 34
  simp only [World.size_alloc] at X
  clear hb
  have hr := X.r2
  have IS := hide (ItmSl.of_own X)
  go_wp2_with fail
  refine (B.out _ _ 2 IS.out).mono ?_
  rintro e w2 ⟨rfl, hb⟩
  replace X := ((X.to hb).alloc #[.int .i64 0, .int .i64 0, .int .i64 2000, .int .i64 20000, .int .i64 0, .int .i64 2000, .int .i64 0, .int .i64 20000, .int .i64 2000] 46).alloc #[.int .i64 0, .int .i64 1, .int .i64 2, .int .i64 0] 49
  simp only [World.size_alloc] at X
  have MS0 := MshSl.of_own X
  have Y := X.alloc #[.slice (some ⟨w2.heap.size, 0, none⟩) 3 3, .slice (some ⟨w2.heap.size + 1, 0, none⟩) 1 1] 52
  simp only [World.size_alloc] at Y
  have MS := hide (MS0.below ((Below.refl _ _).alloc (Nat.le_refl _) (.cells #[.slice (some ⟨w2.heap.size, 0, none⟩) 3 3, .slice (some ⟨w2.heap.size + 1, 0, none⟩) 1 1] 52)))
  clear hb hr IS X MS0
  have hr := Y.r5
  have XB := hide Y.1
  go_wp2_with fail
  refine (T.out _ _ MS.out (tab_below HT.out XB.out)).mono ?_
  rintro e w3 ⟨rfl, hb⟩
  have Z := (Y.to hb).alloc #[.int .i64 8000000, .int .i64 8000000] 40
  have n1 : w2.heap.size + 1 + 1 < w3.heap.size := (Y.to hb).r1.2.2
  clear hb hr Y
  have hr := Z.r6
  have ZB := hide Z.1
  clear Z
  go_wp2
  go_ret
  exact ⟨rfl, ZB.out⟩
end Go.Proofs.YtlnlaopokelggaaGreatDoor

namespace Go.Proofs.YtlnlaopokelggaaGreatDoor
open Go Go.RowKit

set_option maxRecDepth 100000 in
set_option maxHeartbeats 4000000 in
theorem texts48_law (l : List Itm) (A : Option Addr) (cap : Nat) (s : ByteArray) (w : World) (hl : ItmSl w A l) (ht : TxtW w) :
    Calls Tryz.prog 3 #[.slice A l.length cap, .string s] w (RetW (.bool true) w) := by
  have AW := hide (fun W (h : TxtW W) => awake48_any W h.1)
  have HM := hide (fun W (hb : Below w.heap.size w W) => many_any l A cap W (hl.below hb))
  have P1 : Hid (s.size ≤ 900000 → ∀ W, TxtW W → Calls Tryz.prog 6 #[.string s] W (PrsPost s.data.toList W)) := hide (fun h W hW => by
    have := coparse_any s.data.toList W (by simpa using h) hW
    rw [strV_data] at this
    exact this)
  have P2 := hide (fun (h : s.size ≤ 900000) W => rparse48_any s W h)
  have EQ := hide (fun (L : List Itm) A B c c' W h h' => equalM_any L A B c c' W h h')
  have TX := hide (fun W (hb : Below w.heap.size w W) hW => cotext_any l A cap W (hl.below hb) hW)
  have VL := hide (fun W (hb : Below w.heap.size w W) => rvalid48_any l A cap W (hl.below hb))
  have P3 : Hid (vI l = true → ∀ W, TxtW W → Calls Tryz.prog 6 #[strV (txL l)] W (PrsPost (txL l) W)) := hide (fun h W hW => coparse_any (txL l) W (by
    have hv := vI_iff.1 h
    have hl := txL_len hv.2
    omega) hW)
  have RT := hide (fun (h : vI l = true) W (hb : Below w.heap.size w W) => rtext48_any l A cap W h (hl.below hb))
  have RE : Hid (vI l = true → prsF (txL l) = (l, 0, 0)) := hide read_text
  have SL := hide (fun W (hb : Below w.heap.size w W) => hl.below hb)
  have TG : Hid (vI l = true → txR l = txL l ∧ txE l = 0) := hide tx_good
  have TB : Hid (vI l = false → txR l = [] ∧ txE l = 1) := hide tx_bad
  unfold RetW at AW VL
  unfold SomeB at HM
  unfold TxPost at TX
  unfold RetV at RT
  have HT := hide ht
  have X := hide (Below.refl w.heap.size w)
  clear hl ht
  go_enter Tryz.func3, Tryz.ntmps3
  go_wp2_with fail
  refine (AW.out _ HT.out).mono ?_
  rintro e w1 ⟨rfl, hb⟩
  replace X := hide (X.out.trans hb)
  replace HT := hide (HT.out.below hb)
  clear hb AW
  have hsz : Hid (decide ((262244 : Int) < (s.size : Int)) = false → s.size ≤ 900000) := hide (fun h => by have := of_decide_eq_false h; omega)
  generalize hd1 : decide ((1000 : Int) < (s.size : Int)) = d1 at *
  generalize hd2 : decide ((s.size : Int) ≤ 262144) = d2 at *
  generalize hd3 : decide ((262244 : Int) < (s.size : Int)) = d3 at *
  go_upto_region 3 with (fail)
  go_cut [34] (fun v wx => ∃ b : Bool, v = .bool b ∧ Hid ((b = false → d3 = false) ∧ Below w.heap.size w wx ∧ TxtW wx))
  case first =>
    go_wp2_with fail
    refine (HM.out _ X.out).mono ?_
    rintro e w2 ⟨b, rfl, hb⟩
    replace X := hide (below_via X.out X.out.size hb)
    replace HT := hide (HT.out.below hb)
    clear hb HM
    have Y := hide (And.intro X.out HT.out)
    cases b with
    | true =>
      go_wp2_with fail
      go_meet
      exact ⟨_, rfl, hide ⟨(fun h => by cases h), Y.out⟩⟩
    | false =>
      clear P1 P2 EQ TX VL P3 RT RE SL TG TB hsz
      cases d1 <;> cases d2 <;> cases d3
      all_goals
        go_wp2_with fail
        go_meet
        first | exact ⟨_, rfl, hide ⟨(fun _ => by trivial), Y.out⟩⟩ | exact ⟨_, rfl, hide ⟨(fun h => by cases h), Y.out⟩⟩
  case rest =>
    obtain ⟨b, rfl, Y⟩ := hcut
    clear X HT hd1 hd2 hd3
    cases b with
    | true =>
      clear hsz
      have Z := hide Y.out.2.1
      clear Y
      go_wp2
      go_ret
      exact ⟨rfl, Z.out⟩
    | false =>
      have X := hide Y.out.2.1
      have HT := hide Y.out.2.2
      have h9 := hsz.out (Y.out.1 rfl)
      have P1' := hide (P1.out h9)
      have P2' := hide (P2.out h9)
      clear Y hsz P1 P2 h9
      unfold PrsPost at P1' P2' P3
      have c0 : Hid (colI 0 = 0) := hide rfl
      generalize (prsF s.data.toList).1 = L1 at *
      generalize colI (prsF s.data.toList).2.1 = cl at *
      generalize (prsF s.data.toList).2.1 = ln at *
      generalize (prsF s.data.toList).2.2 = er at *
      have x1 : (ln == ln) = true := by simp
      have x2 : (cl == cl) = true := by simp
      have x3 : (er == er) = true := by simp
      go_wp2_with fail
      refine (P1'.out _ HT.out).mono ?_
      rintro e w3 ⟨hb, A1, c1, rfl, S1, -⟩
      have X1 := hide ((show Own w w3 [] from ⟨below_via X.out X.out.size hb, fun _ h => by cases h⟩).alloc #[.int .i64 ln, .int .i64 cl] 26)
      have B1 := hide ((Below.refl w3.heap.size w3).alloc (Nat.le_refl _) (.cells #[.int .i64 ln, .int .i64 cl] 26))
      replace S1 := hide (S1.below B1.out)
      replace HT := hide ((HT.out.below hb).below B1.out)
      clear hb B1 P1' X
      have hr := X1.out.r1
      go_wp2_with fail
      refine (P2'.out _).mono ?_
      rintro e w4 ⟨hb, A2, c2, rfl, S2, -⟩
      have B1 := hide ((Below.refl w4.heap.size w4).alloc (Nat.le_refl _) (.cells #[.int .i64 ln, .int .i64 cl] 26))
      have X2 := hide ((X1.out.to hb).alloc #[.int .i64 ln, .int .i64 cl] 26)
      replace S1 := hide ((S1.out.below hb).below B1.out)
      replace S2 := hide (S2.below B1.out)
      replace HT := hide ((HT.out.below hb).below B1.out)
      clear hb B1 P2' X1 hr
      have hr := X2.out.r2
      go_wp2_with fail
      refine (EQ.out _ _ _ _ _ _ S1.out S2.out).mono ?_
      rintro e w5 ⟨rfl, hb⟩
      have X3 := hide (X2.out.to hb)
      replace HT := hide (HT.out.below hb)
      clear hb X2 hr S1 S2
      have hr := X3.out.r2
      go_wp2_with fail
      refine (TX.out _ X3.out.1 HT.out).mono ?_
      rintro e w6 ⟨rfl, hb⟩
      have X := hide (X3.out.to hb).1
      replace HT := hide (HT.out.below hb)
      clear hb X3 hr x1 x2 x3 TX
      go_wp2_with fail
      refine (VL.out _ X.out).mono ?_
      rintro e w7 ⟨rfl, hb⟩
      replace X := hide (below_via X.out X.out.size hb)
      replace HT := hide (HT.out.below hb)
      clear hb VL
      cases hv : vI l with
      | false =>
        rw [(TB.out hv).1, (TB.out hv).2]
        clear P3 RT RE TG TB hv
        go_wp2
        go_ret
        exact ⟨rfl, X.out⟩
      | true =>
        rw [(TG.out hv).1, (TG.out hv).2]
        have P4 := hide (P3.out hv)
        have RT4 := hide (RT.out hv)
        rw [RE.out hv] at P4
        have P4 : Hid (∀ W, TxtW W → Calls Tryz.prog 6 #[strV (txL l)] W fun e w' => Below W.heap.size W w' ∧ ∃ (A : Option Addr) (c : Nat), e = .returned (.tuple #[.slice A l.length c, .agg #[.int .i64 0, .int .i64 0], .int .i64 0]) ∧ ItmSl w' A l ∧ l.length ≤ c) := P4
        clear P3 RT RE TG TB hv
        generalize txL l = T at *
        have x1 : ((⟨T.toArray⟩ : ByteArray).toList == (⟨T.toArray⟩ : ByteArray).toList) = true := by simp
        go_wp2_with fail
        refine (P4.out _ HT.out).mono ?_
        rintro e w8 ⟨hb, A3, c3, rfl, S3, -⟩
        have B1 := hide ((Below.refl w8.heap.size w8).alloc (Nat.le_refl _) (.cells #[.int .i64 0, .int .i64 0] 26))
        have X4 := hide ((below_via X.out X.out.size hb).alloc (below_via X.out X.out.size hb).size (.cells #[.int .i64 0, .int .i64 0] 26))
        replace S3 := hide (S3.below B1.out)
        clear hb B1 X P4 HT
        go_wp2_with fail
        refine (RT4.out _ X4.out).mono ?_
        rintro e w9 ⟨rfl, hb⟩
        have X5 := hide (below_via X4.out X4.out.size hb)
        replace S3 := hide (S3.out.below hb)
        clear hb X4 RT4
        go_wp2_with fail
        refine (EQ.out _ _ _ _ _ _ S3.out (SL.out _ X5.out)).mono ?_
        rintro e wz ⟨rfl, hb⟩
        have X6 := hide (below_via X5.out X5.out.size hb)
        clear hb X5 S3
        go_wp2
        go_ret
        exact ⟨rfl, X6.out⟩
end Go.Proofs.YtlnlaopokelggaaGreatDoor

namespace Go.Proofs.YtlnlaopokelggaaGreatDoor
open Go.RowKit Go.ChangeShapes Go.WideShapes Go.ChangeAt

theorem listI_of {α : Type} {P : Nat → α → Prop} : ∀ (n : Nat), (∀ i, i < n → ∃ x, P i x) → ∃ l : List α, l.length = n ∧ ∀ i (h : i < l.length), P i l[i]
  | 0, _ => ⟨[], rfl, fun i h => by simp at h⟩
  | n + 1, h => by
    obtain ⟨l, hl, hp⟩ := listI_of n (fun i hi => h i (by omega))
    obtain ⟨x, hx⟩ := h n (by omega)
    refine ⟨l ++ [x], by simp [hl], fun i hi => ?_⟩
    by_cases k : i < l.length
    · rw [List.getElem_append_left k]; exact hp i k
    · have e : i = n := by simp at hi; omega
      subst e
      subst hl
      simpa using hx
section
variable {H : Type} {enc : TypeId × Value → H} {W : World} {v : Value} {d : DataW H} {p : List MemPlace} {b0 : Nat}
theorem addI_plain (b off n : Nat) : (⟨b, off, none⟩ : Addr).add n = ⟨b, off + n, none⟩ := by
  unfold Addr.add; split <;> simp_all
set_option maxRecDepth 100000 in
theorem open_itmS (hv : Value.okWide Tryz.prog W .any b0 22 v) (h : DataW.Trod enc Tryz.prog W 0 (fun _ => true) true 22 v d p) : ∃ A cap l, v = .slice A (List.length l) cap ∧ ItmSl W A l := by
  obtain ⟨a0, len, cap, rfl⟩ := okWide_slice Tryz.underlying22 hv
  obtain ⟨fuel, hf⟩ := h
  rcases open_slice_fields Tryz.underlying22 Tryz.underlying34 (by kernel_rfl) (by kernel_rfl) hf with ⟨hcs, _⟩ | ⟨a, len', cap', m, D, Pl, hcs, _, hl, hm, hmm, _, hat⟩
  · simp only [Value.cells, List.cons.injEq, Value.slice.injEq, and_true] at hcs
    obtain ⟨rfl, rfl, rfl⟩ := hcs
    exact ⟨none, 0, [], rfl, ⟨by simp, fun i h => by simp at h⟩, fun h => by simp at h⟩
  · simp only [Value.cells, List.cons.injEq, Value.slice.injEq, and_true] at hcs
    obtain ⟨rfl, rfl, rfl⟩ := hcs
    simp only [if_true] at hmm
    subst hmm
    have hex : ∀ i, i < len → ∃ x : Itm, x.nm.size ≤ maxLen ∧ W.cell? (a.add (i * 3 + 0)) = some (.string x.nm) ∧ W.cell? (a.add (i * 3 + 1)) = some (.int .i64 x.am) ∧ W.cell? (a.add (i * 3 + 2)) = some (.int .i64 x.pr) := fun i hi => by
      obtain ⟨ys, n, _, _, _, hf⟩ := hat i (by omega)
      obtain ⟨v0, y0, hc0, _, ht0⟩ := hf 0 _ rfl
      obtain ⟨v1, y1, hc1, _, ht1⟩ := hf 1 _ rfl
      obtain ⟨v2, y2, hc2, _, ht2⟩ := hf 2 _ rfl
      obtain ⟨x0, e0, _, hs⟩ := DataW.trod_string Tryz.underlying9 ht0
      obtain ⟨x1, e1, _⟩ := DataW.trod_int Tryz.underlying3 ht1
      obtain ⟨x2, e2, _⟩ := DataW.trod_int Tryz.underlying3 ht2
      simp only [List.cons.injEq, and_true] at e0 e1 e2
      subst e0 e1 e2
      exact ⟨⟨x0, x1, x2⟩, hs, hc0, hc1, hc2⟩
    obtain ⟨l, hlen, hl'⟩ := listI_of len hex
    refine ⟨some a, m, l, by rw [hlen], ⟨by omega, fun i hi => (hl' i hi).1⟩, fun h0 => ?_⟩
    obtain ⟨b, off, spot⟩ := a
    have hspot : spot = none := by simpa [Addr.add] using World.cell?_spot (hl' 0 h0).2.1
    subst hspot
    simp only [addI_plain] at hl'
    refine ⟨b, off, rfl, lt_of_cell (p := ⟨b, off + (0 * 3 + 0), none⟩) (hl' 0 h0).2.1, fun i hi => ?_⟩
    obtain ⟨_, k0, k1, k2⟩ := hl' i hi
    exact ⟨by simpa using k0, by simpa [Nat.add_assoc] using k1, by simpa [Nat.add_assoc] using k2⟩
end
end Go.Proofs.YtlnlaopokelggaaGreatDoor

namespace Go.Proofs.YtlnlaopokelggaaGreatDoor
open Go Go.RowKit
theorem i64_of_wf {n : Int} (h : (Lit.int .i64 n).wf = true) : -9223372036854775808 ≤ n ∧ n ≤ 9223372036854775807 := by
  simpa [Lit.wf, IntKind.min, IntKind.max, IntKind.signed, IntKind.bits] using h
theorem u32_of_wf {n : Int} (h : (Lit.int .u32 n).wf = true) : 0 ≤ n ∧ n ≤ 4294967295 := by
  simpa [Lit.wf, IntKind.min, IntKind.max, IntKind.signed, IntKind.bits] using h
end Go.Proofs.YtlnlaopokelggaaGreatDoor

namespace Go.Proofs.YtlnlaopokelggaaGreatDoor
open Go Go.RowKit Go.ChangeShapes

theorem len_of {s : ByteArray} (h : s.size ≤ maxLen) : s.size ≤ 9223372036854775807 := by unfold maxLen at h; omega
/-- a listed variable of an interface's type holds a value -/
theorem laid_iface {P : Program} {n nm : String} {d : DataW Unit} {r : List (String × DataW Unit)} {W : World} {g : Nat} {ti : TypeId} {ms : Array (String × TypeId)}
    (h : laidMet P ((n, .iface nm d) :: r) W) (hg : P.globalNamed n = some g) (ht : (P.globals[g]?).map (·.type) = some ti) (hi : P.underlying ti = some (.interface ms)) :
    ∃ ev, W.cell? ⟨g, 0, none⟩ = some ev ∧ (ev = .nilIface ∨ ∃ te pe, ev = .iface te pe) := by
  obtain ⟨ps, ⟨g0, t0, cs0, f0, p0, q0, hg0, ht0, hv0, hd0, _, _⟩, _, _⟩ := h
  obtain rfl := Option.some.inj (hg.symm.trans hg0)
  obtain rfl := Option.some.inj (ht.symm.trans ht0)
  obtain ⟨l0⟩ := cs0
  obtain ⟨_, u, v, e, _, _⟩ := iface_of_trod hi hd0
  have e' : l0 = [.iface u v] := e
  subst e'
  exact ⟨.iface u v, by simpa using World.var?_cell hg0 hv0 0, .inr ⟨u, v, rfl⟩⟩
/-- the wrap of a row that lists variables, with the world's shape -/
theorem handed_shaped {H : Type} {enc : TypeId × Value → H} {a : Assume} {C : Checked} {os : Os} {f : FuncId} {fn : Func} {s : ChangeSpec} {conds : List PathCond} {apart fresh handsOn again : Bool} {X : World → Array Value → Prop}
    (hX : ∀ (w w' : World) (args : Array Value), w.heap = w'.heap → X w args → X w' args) (own : ownKnob C.prog.godebug = none) (started : os.Started) (noInit : C.prog.inits.idxOf? f = none) (hfn : C.prog.funcs[f]? = some fn)
    (witness : ∃ (w : World) (tape : Tape) (i : Input), w.os = os ∧ (w.forCall tape i).Shaped C.prog ∧ i.vars = [] ∧ Input.okWide C.prog (w.forCall tape i) .any w.heap.size f i ∧
      ((s.pre enc C.prog fn conds apart (w.forCall tape i).memory i.args ∧ X (w.forCall tape i).memory i.args) ∧ sizedMet enc C.prog fn (OpenSpec.ofChange s) apart (w.forCall tape i).memory i.args) ∧ a.holds C.prog (lone (Frame.enter C.prog f i.args .normal) [] (w.forCall tape i)))
    (contract : ∀ (W : World) (base : Nat) (args : Array Value) (ds gs : List (DataW H)) (before : List MemPlace),
      (∀ (j : Nat) t v, fn.params[j]? = some t → args[j]? = some v → Value.okWide C.prog W .any base t v) → DataW.Whole enc C.prog fn.params.toList s.vars apart W args.toList ds gs before →
      X W args → W.ShapedOpen C.prog → Calls C.prog f args W fun e W' => ∃ v, e = .returned v ∧ s.post enc C.prog fn apart fresh handsOn again W args v W') :
    ReturnsInHanded a C os f .any (fun w args => (s.pre enc C.prog fn conds apart w args ∧ X w args) ∧ sizedMet enc C.prog fn (OpenSpec.ofChange s) apart w args) (s.post enc C.prog fn apart fresh handsOn again) := by
  refine returnsInHanded_of_calls own started noInit witness fun w tape i _ shape _ ok pre _ => ?_
  obtain ⟨_, _, _, fn2, hfn2, _, _, _, _, vals⟩ := ok
  obtain rfl : fn2 = fn := Option.some.inj (hfn2.symm.trans hfn)
  obtain ⟨⟨⟨ds, gs, before, whole, _⟩, x⟩, _⟩ := pre
  refine (contract (w.forCall tape i) w.heap.size i.args ds gs before vals (DataW.Whole.of_heap (w' := w.forCall tape i) (by rfl) whole) (hX _ _ _ (by rfl) x) shape).mono ?_
  rintro e W' ⟨v, rfl, hp⟩
  exact ChangeSpec.post_blind hp
end Go.Proofs.YtlnlaopokelggaaGreatDoor
