/- Parts of one proof, joined: The program's Check of too big surfaces, and Valid: whether a surface is valid; nothing that was there is turned. The face of a point: find, valid and on: what each returns at a valid surface and point; nothing that was there is turned. The level of a point on a face as a fraction: what exact returns; nothing that was there is turned (printed by gen_lce.py). The level of a point: what Exact and Level return at a valid surface and point; nothing that was there is turned. The program's floor, line and counted of lines on a surface, and the points of a line in 16 parts: what each returns; nothing that was there is turned. -/
import Derived.Test.YtlnlaopokelggaaGreatDoorPkCostsTexts11
import Derived.Test.YtlnlaopokelggaaGreatDoorPkCostsTexts8
import Derived.Deep.RegionHeld3
import Derived.Deep.Cut
namespace Go.Proofs.YtlnlaopokelggaaGreatDoor
open Go Go.RowKit

theorem big_vM {m : Msh} (h : smB m = false) : vM m = false := by simp [vM, h]
set_option maxRecDepth 100000 in
set_option maxHeartbeats 1000000 in
theorem mscheck_big (m : Msh) (a : MshA) (w : World) (h : smB m = false) :
    Calls Tryz.prog 62 #[m.val a] w fun e w' => e = .returned (.tuple #[.slice none 0 0, .int .i64 4]) ∧ Below w.heap.size w w' := by
  obtain ⟨ss, fs⟩ := m
  obtain ⟨A1, c1, A2, c2⟩ := a
  have X := (Own.start w).alloc #[.slice A1 ss.length c1, .slice A2 fs.length c2] 52
  have hr := X.r1
  have SM := hide (fun W => mssmall_any ⟨ss, fs⟩ ⟨A1, c1, A2, c2⟩ W)
  rw [h] at SM
  unfold RetW at SM
  clear h
  go_enter Tryz.func62, Tryz.ntmps62
  go_wp2_with fail
  refine (SM.out _).mono ?_
  rintro e w1 ⟨rfl, hb⟩
  replace X := X.to hb
  clear hr hb
  have XB := X.1
  go_wp2
  exact bodyPost_ret (v := .tuple #[.slice none 0 0, .int .i64 4]) (by simp [results, Tryz.results62, go_sem]) rfl ⟨rfl, XB⟩
set_option maxHeartbeats 1000000 in
theorem msvalid_any (m : Msh) (a : MshA) (w : World) (hm : MshSl w m a) (ht : Lib.TabIs Tryz.prog w "internal/strconv.uint64pow10" .u64 Lib.pow10Tab) : Calls Tryz.prog 36 #[m.val a] w (RetW (.bool (vM m)) w) := by
  have X := (Own.start w).alloc (m.cells a) 52
  have hr := X.r1
  have HM := hide (hm.below X.1)
  have HT := hide (tab_below ht X.1)
  cases h : smB m with
  | false =>
    have CK := hide (fun W => mscheck_big m a W h)
    rw [big_vM h]
    clear h hm ht
    go_enter Tryz.func36, Tryz.ntmps36
    go_wp2_with fail
    refine (CK.out _).mono ?_
    rintro e w1 ⟨rfl, hb⟩
    replace X := X.to hb
    clear hr hb
    have XB := X.1
    go_wp2
    go_ret
    exact ⟨rfl, XB⟩
  | true =>
    obtain ⟨ss, fs⟩ := m
    obtain ⟨A1, c1, A2, c2⟩ := a
    have hs : ss.length ≤ 2000 ∧ fs.length ≤ 4000 := by simpa [smB] using h
    have CK := hide (mscheck_any ss fs A1 A2 c1 c2 _ HM.out hs.1 hs.2 HT.out)
    clear h hm ht hs
    go_enter Tryz.func36, Tryz.ntmps36
    go_wp2_with fail
    refine CK.out.mono ?_
    rintro e w1 ⟨⟨A, N, c, rfl, hN⟩, hb⟩
    replace X := X.to hb
    clear hr hb CK HM HT
    have XB := X.1
    by_cases h0 : N = 0
    · have hv := hide (hN.1 h0)
      subst h0
      clear hN
      go_wp2
      go_ret
      exact ⟨ret_bool hv.out.symm, XB⟩
    · have hv : Hid (vM ⟨ss, fs⟩ = false) := hide (by
        cases e : vM ⟨ss, fs⟩ with
        | true => exact absurd (hN.2 e) h0
        | false => rfl)
      have q : ((N : Int) == 0) = false := beq_eq_false_iff_ne.2 (by omega)
      clear hN h0
      go_wp2
      go_ret
      exact ⟨ret_bool hv.out.symm, XB⟩
end Go.Proofs.YtlnlaopokelggaaGreatDoor

namespace Go.Proofs.YtlnlaopokelggaaGreatDoor
open Go Go.RowKit

def fdI (o : Option Nat) : Int := match o with | some i => (i : Int) | none => -1
set_option maxRecDepth 100000 in
set_option maxHeartbeats 2000000 in
theorem lcfind_any (m : Msh) (a : MshA) (p : Pnt) (w : World) (hm : MshSl w m a) (hv : vM m = true) (hp : p.in) :
    Calls Tryz.prog 147 #[m.val a, p.val] w (RetW (.int .i64 (fdI (fdA m p))) w) := by
  have HM := hide hm
  have OT := hide (fun W h k (hk : k < m.fs.length) => lcouter_any m a k p W h hk (okF_of hv hk) hp)
  have hlen : m.fs.length ≤ 9223372036854775807 := hm.2.1.1
  unfold RetW at OT
  obtain ⟨R, hR⟩ : ∃ R : Int, R = fdI (fdA m p) := ⟨_, rfl⟩
  rw [← hR]
  replace hR := hide hR
  obtain ⟨A1, c1, A2, c2⟩ := a
  have X := ((Own.start w).alloc #[.slice A1 m.ss.length c1, .slice A2 m.fs.length c2] 52).alloc #[.int .i64 p.x, .int .i64 p.y] 55
  simp only [World.size_alloc] at X
  have hr := X.r2
  clear hm hv hp
  go_enter Tryz.func147, Tryz.ntmps147
  go_wp2
  go_loopw [9] (fun v9 wr => ∃ k : Nat, k ≤ m.fs.length ∧ v9 = .int .i64 k ∧ Hid (Own w wr [(w.heap.size + 1, 55, #[.int .i64 p.x, .int .i64 p.y]), (w.heap.size, 52, #[.slice A1 m.ss.length c1, .slice A2 m.fs.length c2])]) ∧ Hid (∀ j (hj : j < m.fs.length), j < k → onB (triA m.ss m.fs[j]) p = false)) (fun v _ => m.fs.length - (intOf v).toNat)
  case atStart => exact ⟨0, by omega, rfl, hide X, hide (fun _ _ h => by omega)⟩
  case round =>
    obtain ⟨k, hk, rfl, HX, HN⟩ := hrel
    have hr := HX.out.r2
    by_cases hlt : k < m.fs.length
    · have g1 : decide (k < m.fs.length) = true := decide_eq_true hlt
      have OK := hide (fun W h => OT.out W h k hlt)
      have EO := hide (otA_on (triA m.ss m.fs[k]) p)
      have EN := hide (fun (h : onB (triA m.ss m.fs[k]) p = false) j (hj : j < m.fs.length) (hjk : j < k + 1) => (show onB (triA m.ss m.fs[j]) p = false by
        by_cases e : j = k
        · subst e; exact h
        · exact HN.out j hj (by omega)))
      have EY := hide (fun (h : onB (triA m.ss m.fs[k]) p = true) => (show R = (k : Int) by rw [hR.out, fdA_some.2 ⟨hlt, h, fun j hj hjk => HN.out j hj hjk⟩]; rfl))
      generalize onB (triA m.ss m.fs[k]) p = ob at *
      generalize otA (triA m.ss m.fs[k]) p = ot at *
      go_wp2_with fail
      refine (OK.out _ (HM.out.below HX.out.1)).mono ?_
      rintro e w1 ⟨rfl, hb⟩
      replace HX := hide (HX.out.to hb)
      clear hb hr
      by_cases ho : ot < 0
      · have e : ob = true := EO.out.1 ho
        have ER := hide (EY.out e)
        go_wp2
        go_ret
        exact ⟨ret_int ER.out.symm, HX.out.1⟩
      · have e : ob = false := by
          cases ob with
          | false => rfl
          | true => exact absurd (EO.out.2 rfl) ho
        have ER := hide (EN.out e)
        clear EN EY EO e
        go_wp2
        go_roundw
        case rel => exact ⟨k + 1, by omega, by go_num, HX, ER⟩
        case measure => simp [intOf]; omega
    · have ER : Hid (R = -1) := hide (by rw [hR.out, fdA_none.2 (fun j hj => HN.out j hj (by omega))]; rfl)
      have g1 : decide (k < m.fs.length) = false := decide_eq_false hlt
      go_wp2
      go_ret
      exact ⟨ret_int ER.out.symm, HX.out.1⟩
set_option maxHeartbeats 1000000 in
theorem lcvalid1_any (p : Pnt) (w : World) : Calls Tryz.prog 157 #[p.val] w (RetW (.bool (!inP p)) w) := by
  have X := (Own.start w).alloc #[.int .i64 p.x, .int .i64 p.y] 55
  have hr := X.r1
  have PV := hide (fun W => plvalid_any p W)
  unfold RetW at PV
  go_enter Tryz.func157, Tryz.ntmps157
  go_wp2_with fail
  refine (PV.out _).mono ?_
  rintro e w1 ⟨rfl, hb⟩
  have XB := (X.to hb).1
  clear hb hr
  go_wp2
  go_ret
  exact ⟨rfl, XB⟩
set_option maxHeartbeats 1000000 in
theorem lcvalid_any (m : Msh) (a : MshA) (l : List Pnt) (A : Option Addr) (cap : Nat) (w : World) (hm : MshSl w m a) (ht : Lib.TabIs Tryz.prog w "internal/strconv.uint64pow10" .u64 Lib.pow10Tab) (hv : vM m = true) (hl : PntSl w A l) :
    Calls Tryz.prog 146 #[m.val a, .slice A l.length cap] w (RetW (.bool (l.all inP)) w) := by
  have MV := hide (fun W h h' => msvalid_any m a W h h')
  have C := hide (fun W h => contQ_any 157 (fun p => !inP p) lcvalid1_any (fun d w => enters_of Tryz.func157 (by kernel_rfl) rfl _ w) l A cap W h)
  have E : Hid ((!(l.any fun p => !inP p)) = l.all inP) := hide (by rw [List.any_eq_not_all_not]; simp)
  rw [hv] at MV
  unfold RetW at C MV
  have HM := hide hm
  have HT := hide ht
  have HL := hide hl
  obtain ⟨A1, c1, A2, c2⟩ := a
  have X := (Own.start w).alloc #[.slice A1 m.ss.length c1, .slice A2 m.fs.length c2] 52
  have hr := X.r1
  clear hl hm ht hv
  generalize (l.any fun p => !inP p) = b at *
  go_enter Tryz.func146, Tryz.ntmps146
  go_wp2_with fail
  refine (MV.out _ (HM.out.below X.1) (tab_below HT.out X.1)).mono ?_
  rintro e w1 ⟨rfl, hb⟩
  replace X := X.to hb
  clear hr hb
  go_wp2_with fail
  refine (C.out _ (HL.out.below X.1)).mono ?_
  rintro e w2 ⟨rfl, hb⟩
  replace X := X.to hb
  clear hb
  go_wp2
  go_ret
  exact ⟨ret_bool E.out, X.1⟩
def onR (o : Option Nat) : Int × Int := match o with | some i => ((i : Int), 0) | none => (0, 12)
set_option maxHeartbeats 1000000 in
theorem lcon_any (m : Msh) (a : MshA) (p : Pnt) (w : World) (hm : MshSl w m a) (ht : Lib.TabIs Tryz.prog w "internal/strconv.uint64pow10" .u64 Lib.pow10Tab) (hv : vM m = true) (hp : p.in) :
    Calls Tryz.prog 134 #[m.val a, p.val] w (RetW (.tuple #[.int .i64 (onR (fdA m p)).1, .int .i64 (onR (fdA m p)).2]) w) := by
  have LV := hide (fun W b h h' (h'' : PntSl W (some ⟨b, 0, none⟩) [p]) => lcvalid_any m a [p] (some ⟨b, 0, none⟩) 1 W h h' hv h'')
  have FD := hide (fun W h => lcfind_any m a p W h hv hp)
  have e1 : [p].all inP = true := by simp [inP_iff.2 hp]
  rw [e1] at LV
  unfold RetW at LV FD
  have HM := hide hm
  have HT := hide ht
  obtain ⟨A1, c1, A2, c2⟩ := a
  have X := ((Own.start w).alloc #[.slice A1 m.ss.length c1, .slice A2 m.fs.length c2] 52).alloc #[.int .i64 p.x, .int .i64 p.y] 55
  simp only [World.size_alloc] at X
  have hr := X.r2
  clear hm ht hv hp e1
  have ways : (∃ i : Nat, Hid (onR (fdA m p) = ((i : Int), 0)) ∧ fdI (fdA m p) = (i : Int)) ∨ (Hid (onR (fdA m p) = (0, 12)) ∧ fdI (fdA m p) = -1) := by
    cases fdA m p with
    | some i => exact .inl ⟨i, hide rfl, rfl⟩
    | none => exact .inr ⟨hide rfl, rfl⟩
  generalize onR (fdA m p) = rr at *
  generalize fdI (fdA m p) = ri at *
  rcases ways with ⟨i, ER, rfl⟩ | ⟨ER, rfl⟩
  all_goals
    go_enter Tryz.func134, Tryz.ntmps134
    go_wp2_with fail
    have Y := X.alloc #[.int .i64 p.x, .int .i64 p.y] 55
    simp only [World.size_alloc] at Y
    have PS : PntSl (((w.alloc (.cells #[.slice A1 m.ss.length c1, .slice A2 m.fs.length c2] 52)).alloc (.cells #[.int .i64 p.x, .int .i64 p.y] 55)).alloc (.cells #[.int .i64 p.x, .int .i64 p.y] 55)) (some ⟨w.heap.size + 1 + 1, 0, none⟩) [p] :=
      ⟨by simp, fun _ => ⟨_, 0, rfl, Y.r1.2.2, fun i hi => by
        obtain rfl : i = 0 := by simpa using hi
        exact ⟨Y.r1.1 0, Y.r1.1 1⟩⟩⟩
    refine (LV.out _ _ (HM.out.below Y.1) (tab_below HT.out Y.1) PS).mono ?_
    rintro e w1 ⟨rfl, hb⟩
    replace X := (Y.to hb).tail
    clear hr hb Y PS
    have hr := X.r2
    go_wp2_with fail
    refine (FD.out _ (HM.out.below X.1)).mono ?_
    rintro e w2 ⟨rfl, hb⟩
    replace X := X.to hb
    clear hr hb
    go_wp2
    go_ret2
    exact ⟨by rw [ER.out]; rfl, X.1⟩
end Go.Proofs.YtlnlaopokelggaaGreatDoor

namespace Go.Proofs.YtlnlaopokelggaaGreatDoor
open Go Go.RowKit

theorem Own.put2 {w W : World} {b : Nat} {t : TypeId} {c0 c1 : Value} {L : List (Nat × TypeId × Array Value)} (h : Own w W ((b, t, #[c0, c1]) :: L)) (hb : w.heap.size ≤ b) (hn : ∀ x ∈ L, x.1 ≠ b) (u v : Value) :
    Own w ((W.setCell ⟨b, 0, none⟩ u).setCell ⟨b, 1, none⟩ v) ((b, t, #[u, v]) :: L) := (h.set0 hb hn 0 u).set0 hb hn 1 v
theorem keepsB (w' : World) : ∀ o b i v, w'.cell? ⟨b, i, none⟩ = some v → (w'.alloc o).cell? ⟨b, i, none⟩ = some v := fun o b i _ hc => (World.cell?_alloc_lt w' o ⟨b, i, none⟩ (lt_of_cell hc)).trans hc
/-- the parts of a numerator -/
def nmA (s t u : Spt) (p : Pnt) : Nat → Int
  | 0 => 0
  | 1 => s.z * trn p t.pt u.pt
  | 2 => s.z * trn p t.pt u.pt + t.z * trn p u.pt s.pt
  | _ => s.z * trn p t.pt u.pt + t.z * trn p u.pt s.pt + u.z * trn p s.pt t.pt
abbrev wvC (v : Int) : Array Value := #[.int .i64 (v / 1152921504606846976), .int .i64 (v % 1152921504606846976)]
theorem wideB_of {x : Int} (h1 : -1267650600228229401496703205376 ≤ x) (h2 : x ≤ 1267650600228229401496703205376) : wideB x := ⟨h1, h2⟩
theorem zt_bd {z w : Int} (hz : -4194304 ≤ z ∧ z ≤ 4194304) (hw : -2251799813685248 ≤ w ∧ w ≤ 2251799813685248) : -9444732965739290427392 ≤ z * w ∧ z * w ≤ 9444732965739290427392 := by
  have h1 : z.natAbs ≤ 4194304 := by omega
  have h2 : w.natAbs ≤ 2251799813685248 := by omega
  have h3 : (z * w).natAbs ≤ 4194304 * 2251799813685248 := by rw [Int.natAbs_mul]; exact Nat.mul_le_mul h1 h2
  omega
set_option maxRecDepth 100000 in
set_option maxHeartbeats 16000000 in
theorem lcexact_any (m : Msh) (a : MshA) (i : Nat) (p : Pnt) (w : World) (hm : MshSl w m a) (hi : i < m.fs.length) (hk : OkF m.ss m.fs[i]) (hp : p.in) :
    Calls Tryz.prog 135 #[m.val a, .int .i64 (i : Int), p.val] w (RetW (.tuple #[WV (numA m.ss m.fs[i] p), .int .i64 (denA m.ss m.fs[i]), .int .i64 0]) w) := by
  have CR := hide (fun W h => lccorners_any m a i W h hi hk)
  have HM := hide hm
  unfold cnV RetW at CR
  obtain ⟨N, hN⟩ : ∃ N : Int, N = numA m.ss m.fs[i] p := ⟨_, rfl⟩
  obtain ⟨D, hD⟩ : ∃ D : Int, D = denA m.ss m.fs[i] := ⟨_, rfl⟩
  rw [← hN, ← hD]
  have E1 : N = nmA (spA m.ss m.fs[i].a) (spA m.ss m.fs[i].b) (spA m.ss m.fs[i].c) p 3 := hN
  have E2 : D = trn (spA m.ss m.fs[i].a).pt (spA m.ss m.fs[i].b).pt (spA m.ss m.fs[i].c).pt := hD
  have za := hk.za
  have zb := hk.zb
  have zc := hk.zc
  obtain ⟨ia, ib, ic⟩ := hk.i
  have ia : (spA m.ss m.fs[i].a).pt.in := ia
  have ib : (spA m.ss m.fs[i].b).pt.in := ib
  have ic : (spA m.ss m.fs[i].c).pt.in := ic
  clear hm hk hN hD
  generalize spA m.ss m.fs[i].a = s at *
  generalize spA m.ss m.fs[i].b = t at *
  generalize spA m.ss m.fs[i].c = u at *
  have A0 := hide (fun W => lcat_any s W)
  have A1 := hide (fun W => lcat_any t W)
  have A2 := hide (fun W => lcat_any u W)
  have T0 := hide (fun W => lcturn_any p t.pt u.pt W hp ib ic)
  have T1 := hide (fun W => lcturn_any p u.pt s.pt W hp ic ia)
  have T2 := hide (fun W => lcturn_any p s.pt t.pt W hp ia ib)
  have TD := hide (fun W => lcturn_any s.pt t.pt u.pt W ia ib ic)
  have b0 := trn_bd2 hp ib ic
  have b1 := trn_bd2 hp ic ia
  have b2 := trn_bd2 hp ia ib
  have v0 := zt_bd za b0
  have v1 := zt_bd zb b1
  have v2 := zt_bd zc b2
  have P0 := hide (fun W => wsproduct_any s.z (trn p t.pt u.pt) W ⟨by omega, by omega⟩ ⟨by omega, by omega⟩ (wideB_of (by omega) (by omega)))
  have P1 := hide (fun W => wsproduct_any t.z (trn p u.pt s.pt) W ⟨by omega, by omega⟩ ⟨by omega, by omega⟩ (wideB_of (by omega) (by omega)))
  have P2 := hide (fun W => wsproduct_any u.z (trn p s.pt t.pt) W ⟨by omega, by omega⟩ ⟨by omega, by omega⟩ (wideB_of (by omega) (by omega)))
  have Q0 := hide (fun W => wsadd_any 0 (s.z * trn p t.pt u.pt) W (wideB_of (by omega) (by omega)) (wideB_of (by omega) (by omega)) (wideB_of (by omega) (by omega)))
  have Q1 := hide (fun W => wsadd_any (s.z * trn p t.pt u.pt) (t.z * trn p u.pt s.pt) W (wideB_of (by omega) (by omega)) (wideB_of (by omega) (by omega)) (wideB_of (by omega) (by omega)))
  have Q2 := hide (fun W => wsadd_any (s.z * trn p t.pt u.pt + t.z * trn p u.pt s.pt) (u.z * trn p s.pt t.pt) W (wideB_of (by omega) (by omega)) (wideB_of (by omega) (by omega)) (wideB_of (by omega) (by omega)))
  rw [Int.zero_add] at Q0
  simp only [nmA] at E1
  clear b0 b1 b2 v0 v1 v2 ia ib ic za zb zc hp
  unfold RetW at A0 A1 A2 T0 T1 T2 TD P0 P1 P2 Q0 Q1 Q2
  generalize s.z * trn p t.pt u.pt + t.z * trn p u.pt s.pt = m1 at *
  generalize trn s.pt t.pt u.pt = den at *
  generalize hw0 : s.z * trn p t.pt u.pt = m0 at *
  generalize hw1 : t.z * trn p u.pt s.pt = y1 at *
  generalize hw2 : u.z * trn p s.pt t.pt = y2 at *
  clear hw0 hw1 hw2
  generalize trn p t.pt u.pt = n0 at *
  generalize trn p u.pt s.pt = n1 at *
  generalize trn p s.pt t.pt = n2 at *
  generalize m1 + y2 = m2 at *
  subst E1 E2
  obtain ⟨A1', c1, A2', c2⟩ := a
  unfold Spt.pt at *
  obtain ⟨sx, sy, sz⟩ := s
  obtain ⟨tx, ty, tz⟩ := t
  obtain ⟨ux, uy, uz⟩ := u
  simp only at *
  have e00 : (0 : Int) / 1152921504606846976 = 0 := by decide
  have e01 : (0 : Int) % 1152921504606846976 = 0 := by decide
  unfold WV at *
  rw [e00, e01] at Q0
  clear e00 e01
  generalize N / 1152921504606846976 = Nh at *
  generalize N % 1152921504606846976 = Nl at *
  generalize m0 / 1152921504606846976 = m0h at *
  generalize m0 % 1152921504606846976 = m0l at *
  generalize m1 / 1152921504606846976 = m1h at *
  generalize m1 % 1152921504606846976 = m1l at *
  generalize y1 / 1152921504606846976 = y1h at *
  generalize y1 % 1152921504606846976 = y1l at *
  generalize y2 / 1152921504606846976 = y2h at *
  generalize y2 % 1152921504606846976 = y2l at *
  have X := (((Own.start w).alloc #[.slice A1' m.ss.length c1, .slice A2' m.fs.length c2] 52).alloc #[.int .i64 p.x, .int .i64 p.y] 55).alloc #[.int .i64 0, .int .i64 0] 80
  simp only [World.size_alloc] at X
  have hr := X.r3
  go_enter Tryz.func135, Tryz.ntmps135
  go_wp2_with fail
  refine (CR.out _ (HM.out.below X.1)).mono ?_
  rintro e w1 ⟨rfl, hb⟩
  have n0' : w.heap.size + 1 + 1 < w1.heap.size := by have hz := hb.size; simp at hz; omega
  have HX := hide ((X.to hb).alloc #[.int .i64 sx, .int .i64 sy, .int .i64 sz, .int .i64 tx, .int .i64 ty, .int .i64 tz, .int .i64 ux, .int .i64 uy, .int .i64 uz] 205).swap
  clear hb hr X CR HM
  have hr := HX.out.r4
  go_wp2
  obtain ⟨cw, h0, h1, h2, h3⟩ : ∃ cw : Nat → Array Value, cw 0 = #[.int .i64 0, .int .i64 0] ∧ cw 1 = #[.int .i64 m0h, .int .i64 m0l] ∧ cw 2 = #[.int .i64 m1h, .int .i64 m1l] ∧ cw 3 = #[.int .i64 Nh, .int .i64 Nl] :=
    ⟨fun k => match k with | 0 => #[.int .i64 0, .int .i64 0] | 1 => #[.int .i64 m0h, .int .i64 m0l] | 2 => #[.int .i64 m1h, .int .i64 m1l] | _ => #[.int .i64 Nh, .int .i64 Nl], rfl, rfl, rfl, rfl⟩
  replace h0 := hide h0
  replace h1 := hide h1
  replace h2 := hide h2
  replace h3 := hide h3
  go_loopw [18] (fun v18 wr => ∃ k : Nat, k ≤ 3 ∧ v18 = .int .i64 k ∧ Hid (Own w wr [(w.heap.size + 1 + 1, 80, cw k), (w1.heap.size, 205, #[.int .i64 sx, .int .i64 sy, .int .i64 sz, .int .i64 tx, .int .i64 ty, .int .i64 tz, .int .i64 ux, .int .i64 uy, .int .i64 uz]), (w.heap.size + 1, 55, #[.int .i64 p.x, .int .i64 p.y]), (w.heap.size, 52, #[.slice A1' m.ss.length c1, .slice A2' m.fs.length c2])])) (fun v _ => 3 - (intOf v).toNat)
  case atStart => exact ⟨0, by omega, rfl, hide (by rw [h0.out]; exact HX.out)⟩
  case round =>
    clear HX hr
    obtain ⟨k, hk, rfl, HX⟩ := hrel
    obtain rfl | rfl | rfl | rfl : k = 0 ∨ k = 1 ∨ k = 2 ∨ k = 3 := by omega
    · rw [h0.out] at HX
      have hr := HX.out.r4
      have s1 : IntKind.i64.wrap 1 = 1 := by decide
      have s2 : IntKind.i64.wrap 2 = 2 := by decide
      have s3 : (1 : Int).tmod 3 = 1 := by decide
      have s4 : (2 : Int).tmod 3 = 2 := by decide
      have IX : ∀ W, (Instr.index 205 (.agg #[.int .i64 sx, .int .i64 sy, .int .i64 sz, .int .i64 tx, .int .i64 ty, .int .i64 tz, .int .i64 ux, .int .i64 uy, .int .i64 uz]) (.int .i64 0)).run Tryz.prog W = .ok (.agg #[.int .i64 sx, .int .i64 sy, .int .i64 sz]) W := fun W => by kernel_rfl
      go_upto_region 5 with (fail)
      have hlw : w1.heap.size < wr.heap.size := hr.2.1.2.2
      replace HX := hide (HX.out.alloc #[.int .i64 sx, .int .i64 sy, .int .i64 sz] 46)
      have hlw0 : wr.heap.size < (wr.alloc (.cells #[.int .i64 sx, .int .i64 sy, .int .i64 sz] 46)).heap.size := by simp
      generalize wr.alloc (.cells #[.int .i64 sx, .int .i64 sy, .int .i64 sz] 46) = W0 at *
      have mm0 : ¬ W0.heap.size = wr.heap.size ∧ ¬ W0.heap.size = w.heap.size + 1 ∧ ¬ W0.heap.size = w1.heap.size := by omega
      have hr := HX.out.r4
      go_region_held3 (fun w' => w'.cell? ⟨wr.heap.size, 2, none⟩ = some (.int .i64 sz) ∧ w'.cell? ⟨w.heap.size + 1, 0, none⟩ = some (.int .i64 p.x) ∧ w'.cell? ⟨w.heap.size + 1, 1, none⟩ = some (.int .i64 p.y) ∧ w'.cell? ⟨w1.heap.size, 3, none⟩ = some (.int .i64 tx) ∧ w'.cell? ⟨w1.heap.size, 4, none⟩ = some (.int .i64 ty) ∧ w'.cell? ⟨w1.heap.size, 5, none⟩ = some (.int .i64 tz) ∧ w'.cell? ⟨w1.heap.size, 6, none⟩ = some (.int .i64 ux) ∧ w'.cell? ⟨w1.heap.size, 7, none⟩ = some (.int .i64 uy) ∧ w'.cell? ⟨w1.heap.size, 8, none⟩ = some (.int .i64 uz)) (go_keep) (first | (go_at_call 150; (first | (with_reducible refine (A1.out _).mono ?_) | (with_reducible refine (A2.out _).mono ?_)); rintro e wA ⟨rfl, hb⟩; have nnwA : wr.heap.size < wA.heap.size := (by have hz := hb.size; (try simp at hz); omega); have mmwA : ¬ wA.heap.size = wr.heap.size ∧ ¬ wA.heap.size = w.heap.size + 1 ∧ ¬ wA.heap.size = w1.heap.size := (by omega); (first | (replace HX := hide (HX.out.to hb)) | (replace HX := hide (HX.out.drew.to hb)) | (replace HX := hide ((HX.out.alloc _ _).to hb)) | (replace HX := hide ((HX.out.alloc _ _).drew.to hb))); have hkwA := keeps hb; have hawA := keepsB wA; (first | have hr2 := HX.out.r5 | have hr2 := HX.out.r4); (try simp only [World.size_alloc] at hr2); clear hb) | (go_at_call 149; (first | (with_reducible refine (T0.out _).mono ?_)); rintro e wT ⟨rfl, hb⟩; have nnwT : wr.heap.size < wT.heap.size := (by have hz := hb.size; (try simp at hz); omega); have mmwT : ¬ wT.heap.size = wr.heap.size ∧ ¬ wT.heap.size = w.heap.size + 1 ∧ ¬ wT.heap.size = w1.heap.size := (by omega); (first | (replace HX := hide (HX.out.to hb)) | (replace HX := hide (HX.out.drew.to hb)) | (replace HX := hide ((HX.out.alloc _ _).to hb)) | (replace HX := hide ((HX.out.alloc _ _).drew.to hb))); have hkwT := keeps hb; have hawT := keepsB wT; (first | have hr2 := HX.out.r5 | have hr2 := HX.out.r4); (try simp only [World.size_alloc] at hr2); clear hb) | (go_at_call 33; (first | (with_reducible refine (P0.out _).mono ?_)); rintro e wP ⟨rfl, hb⟩; have nnwP : wr.heap.size < wP.heap.size := (by have hz := hb.size; (try simp at hz); omega); have mmwP : ¬ wP.heap.size = wr.heap.size ∧ ¬ wP.heap.size = w.heap.size + 1 ∧ ¬ wP.heap.size = w1.heap.size := (by omega); (first | (replace HX := hide (HX.out.to hb)) | (replace HX := hide (HX.out.drew.to hb)) | (replace HX := hide ((HX.out.alloc _ _).to hb)) | (replace HX := hide ((HX.out.alloc _ _).drew.to hb))); have hkwP := keeps hb; have hawP := keepsB wP; (first | have hr2 := HX.out.r5 | have hr2 := HX.out.r4); (try simp only [World.size_alloc] at hr2); clear hb))
      all_goals
        go_wp2_with fail
        refine (Q0.out _).mono ?_
        rintro e wB ⟨rfl, hb⟩
        (first
          | (have HZ := hide ((HX.out.put2 (by omega) (by simp only [List.mem_cons, List.not_mem_nil, or_false]; rintro x (rfl | rfl | rfl | rfl | rfl) <;> simp <;> omega) _ _).to hb).tail.tail)
          | (have HZ := hide ((HX.out.alloc _ _).to hb).tail.tail))
        have HV : Hid (Own w wB [(w.heap.size + 1 + 1, 80, #[.int .i64 0, .int .i64 0]), (w1.heap.size, 205, #[.int .i64 sx, .int .i64 sy, .int .i64 sz, .int .i64 tx, .int .i64 ty, .int .i64 tz, .int .i64 ux, .int .i64 uy, .int .i64 uz]), (w.heap.size + 1, 55, #[.int .i64 p.x, .int .i64 p.y]), (w.heap.size, 52, #[.slice A1' m.ss.length c1, .slice A2' m.fs.length c2])]) := HZ
        clear HX hr hr2 hb HZ
        have hr := HV.out.r4
        go_wp2
        go_roundw
        case rel =>
          refine ⟨1, by omega, by go_num, ?_⟩
          rw [h1.out]
          exact hide (HV.out.put2 (by omega) (by simp only [List.mem_cons, List.not_mem_nil, or_false]; rintro x (rfl | rfl | rfl) <;> simp <;> omega) _ _)
        case measure => simp [intOf]
    · rw [h1.out] at HX
      have hr := HX.out.r4
      have s1 : IntKind.i64.wrap 2 = 2 := by decide
      have s2 : IntKind.i64.wrap 3 = 3 := by decide
      have s3 : (2 : Int).tmod 3 = 2 := by decide
      have s4 : (3 : Int).tmod 3 = 0 := by decide
      have IX : ∀ W, (Instr.index 205 (.agg #[.int .i64 sx, .int .i64 sy, .int .i64 sz, .int .i64 tx, .int .i64 ty, .int .i64 tz, .int .i64 ux, .int .i64 uy, .int .i64 uz]) (.int .i64 1)).run Tryz.prog W = .ok (.agg #[.int .i64 tx, .int .i64 ty, .int .i64 tz]) W := fun W => by kernel_rfl
      go_upto_region 5 with (fail)
      have hlw : w1.heap.size < wr.heap.size := hr.2.1.2.2
      replace HX := hide (HX.out.alloc #[.int .i64 tx, .int .i64 ty, .int .i64 tz] 46)
      have hlw0 : wr.heap.size < (wr.alloc (.cells #[.int .i64 tx, .int .i64 ty, .int .i64 tz] 46)).heap.size := by simp
      generalize wr.alloc (.cells #[.int .i64 tx, .int .i64 ty, .int .i64 tz] 46) = W0 at *
      have mm0 : ¬ W0.heap.size = wr.heap.size ∧ ¬ W0.heap.size = w.heap.size + 1 ∧ ¬ W0.heap.size = w1.heap.size := by omega
      have hr := HX.out.r4
      go_region_held3 (fun w' => w'.cell? ⟨wr.heap.size, 2, none⟩ = some (.int .i64 tz) ∧ w'.cell? ⟨w.heap.size + 1, 0, none⟩ = some (.int .i64 p.x) ∧ w'.cell? ⟨w.heap.size + 1, 1, none⟩ = some (.int .i64 p.y) ∧ w'.cell? ⟨w1.heap.size, 6, none⟩ = some (.int .i64 ux) ∧ w'.cell? ⟨w1.heap.size, 7, none⟩ = some (.int .i64 uy) ∧ w'.cell? ⟨w1.heap.size, 8, none⟩ = some (.int .i64 uz) ∧ w'.cell? ⟨w1.heap.size, 0, none⟩ = some (.int .i64 sx) ∧ w'.cell? ⟨w1.heap.size, 1, none⟩ = some (.int .i64 sy) ∧ w'.cell? ⟨w1.heap.size, 2, none⟩ = some (.int .i64 sz)) (go_keep) (first | (go_at_call 150; (first | (with_reducible refine (A2.out _).mono ?_) | (with_reducible refine (A0.out _).mono ?_)); rintro e wA ⟨rfl, hb⟩; have nnwA : wr.heap.size < wA.heap.size := (by have hz := hb.size; (try simp at hz); omega); have mmwA : ¬ wA.heap.size = wr.heap.size ∧ ¬ wA.heap.size = w.heap.size + 1 ∧ ¬ wA.heap.size = w1.heap.size := (by omega); (first | (replace HX := hide (HX.out.to hb)) | (replace HX := hide (HX.out.drew.to hb)) | (replace HX := hide ((HX.out.alloc _ _).to hb)) | (replace HX := hide ((HX.out.alloc _ _).drew.to hb))); have hkwA := keeps hb; have hawA := keepsB wA; (first | have hr2 := HX.out.r5 | have hr2 := HX.out.r4); (try simp only [World.size_alloc] at hr2); clear hb) | (go_at_call 149; (first | (with_reducible refine (T1.out _).mono ?_)); rintro e wT ⟨rfl, hb⟩; have nnwT : wr.heap.size < wT.heap.size := (by have hz := hb.size; (try simp at hz); omega); have mmwT : ¬ wT.heap.size = wr.heap.size ∧ ¬ wT.heap.size = w.heap.size + 1 ∧ ¬ wT.heap.size = w1.heap.size := (by omega); (first | (replace HX := hide (HX.out.to hb)) | (replace HX := hide (HX.out.drew.to hb)) | (replace HX := hide ((HX.out.alloc _ _).to hb)) | (replace HX := hide ((HX.out.alloc _ _).drew.to hb))); have hkwT := keeps hb; have hawT := keepsB wT; (first | have hr2 := HX.out.r5 | have hr2 := HX.out.r4); (try simp only [World.size_alloc] at hr2); clear hb) | (go_at_call 33; (first | (with_reducible refine (P1.out _).mono ?_)); rintro e wP ⟨rfl, hb⟩; have nnwP : wr.heap.size < wP.heap.size := (by have hz := hb.size; (try simp at hz); omega); have mmwP : ¬ wP.heap.size = wr.heap.size ∧ ¬ wP.heap.size = w.heap.size + 1 ∧ ¬ wP.heap.size = w1.heap.size := (by omega); (first | (replace HX := hide (HX.out.to hb)) | (replace HX := hide (HX.out.drew.to hb)) | (replace HX := hide ((HX.out.alloc _ _).to hb)) | (replace HX := hide ((HX.out.alloc _ _).drew.to hb))); have hkwP := keeps hb; have hawP := keepsB wP; (first | have hr2 := HX.out.r5 | have hr2 := HX.out.r4); (try simp only [World.size_alloc] at hr2); clear hb))
      all_goals
        go_wp2_with fail
        refine (Q1.out _).mono ?_
        rintro e wB ⟨rfl, hb⟩
        (first
          | (have HZ := hide ((HX.out.put2 (by omega) (by simp only [List.mem_cons, List.not_mem_nil, or_false]; rintro x (rfl | rfl | rfl | rfl | rfl) <;> simp <;> omega) _ _).to hb).tail.tail)
          | (have HZ := hide ((HX.out.alloc _ _).to hb).tail.tail))
        have HV : Hid (Own w wB [(w.heap.size + 1 + 1, 80, #[.int .i64 m0h, .int .i64 m0l]), (w1.heap.size, 205, #[.int .i64 sx, .int .i64 sy, .int .i64 sz, .int .i64 tx, .int .i64 ty, .int .i64 tz, .int .i64 ux, .int .i64 uy, .int .i64 uz]), (w.heap.size + 1, 55, #[.int .i64 p.x, .int .i64 p.y]), (w.heap.size, 52, #[.slice A1' m.ss.length c1, .slice A2' m.fs.length c2])]) := HZ
        clear HX hr hr2 hb HZ
        have hr := HV.out.r4
        go_wp2
        go_roundw
        case rel =>
          refine ⟨2, by omega, by go_num, ?_⟩
          rw [h2.out]
          exact hide (HV.out.put2 (by omega) (by simp only [List.mem_cons, List.not_mem_nil, or_false]; rintro x (rfl | rfl | rfl) <;> simp <;> omega) _ _)
        case measure => simp [intOf]
    · rw [h2.out] at HX
      have hr := HX.out.r4
      have s1 : IntKind.i64.wrap 3 = 3 := by decide
      have s2 : IntKind.i64.wrap 4 = 4 := by decide
      have s3 : (3 : Int).tmod 3 = 0 := by decide
      have s4 : (4 : Int).tmod 3 = 1 := by decide
      have IX : ∀ W, (Instr.index 205 (.agg #[.int .i64 sx, .int .i64 sy, .int .i64 sz, .int .i64 tx, .int .i64 ty, .int .i64 tz, .int .i64 ux, .int .i64 uy, .int .i64 uz]) (.int .i64 2)).run Tryz.prog W = .ok (.agg #[.int .i64 ux, .int .i64 uy, .int .i64 uz]) W := fun W => by kernel_rfl
      go_upto_region 5 with (fail)
      have hlw : w1.heap.size < wr.heap.size := hr.2.1.2.2
      replace HX := hide (HX.out.alloc #[.int .i64 ux, .int .i64 uy, .int .i64 uz] 46)
      have hlw0 : wr.heap.size < (wr.alloc (.cells #[.int .i64 ux, .int .i64 uy, .int .i64 uz] 46)).heap.size := by simp
      generalize wr.alloc (.cells #[.int .i64 ux, .int .i64 uy, .int .i64 uz] 46) = W0 at *
      have mm0 : ¬ W0.heap.size = wr.heap.size ∧ ¬ W0.heap.size = w.heap.size + 1 ∧ ¬ W0.heap.size = w1.heap.size := by omega
      have hr := HX.out.r4
      go_region_held3 (fun w' => w'.cell? ⟨wr.heap.size, 2, none⟩ = some (.int .i64 uz) ∧ w'.cell? ⟨w.heap.size + 1, 0, none⟩ = some (.int .i64 p.x) ∧ w'.cell? ⟨w.heap.size + 1, 1, none⟩ = some (.int .i64 p.y) ∧ w'.cell? ⟨w1.heap.size, 0, none⟩ = some (.int .i64 sx) ∧ w'.cell? ⟨w1.heap.size, 1, none⟩ = some (.int .i64 sy) ∧ w'.cell? ⟨w1.heap.size, 2, none⟩ = some (.int .i64 sz) ∧ w'.cell? ⟨w1.heap.size, 3, none⟩ = some (.int .i64 tx) ∧ w'.cell? ⟨w1.heap.size, 4, none⟩ = some (.int .i64 ty) ∧ w'.cell? ⟨w1.heap.size, 5, none⟩ = some (.int .i64 tz)) (go_keep) (first | (go_at_call 150; (first | (with_reducible refine (A0.out _).mono ?_) | (with_reducible refine (A1.out _).mono ?_)); rintro e wA ⟨rfl, hb⟩; have nnwA : wr.heap.size < wA.heap.size := (by have hz := hb.size; (try simp at hz); omega); have mmwA : ¬ wA.heap.size = wr.heap.size ∧ ¬ wA.heap.size = w.heap.size + 1 ∧ ¬ wA.heap.size = w1.heap.size := (by omega); (first | (replace HX := hide (HX.out.to hb)) | (replace HX := hide (HX.out.drew.to hb)) | (replace HX := hide ((HX.out.alloc _ _).to hb)) | (replace HX := hide ((HX.out.alloc _ _).drew.to hb))); have hkwA := keeps hb; have hawA := keepsB wA; (first | have hr2 := HX.out.r5 | have hr2 := HX.out.r4); (try simp only [World.size_alloc] at hr2); clear hb) | (go_at_call 149; (first | (with_reducible refine (T2.out _).mono ?_)); rintro e wT ⟨rfl, hb⟩; have nnwT : wr.heap.size < wT.heap.size := (by have hz := hb.size; (try simp at hz); omega); have mmwT : ¬ wT.heap.size = wr.heap.size ∧ ¬ wT.heap.size = w.heap.size + 1 ∧ ¬ wT.heap.size = w1.heap.size := (by omega); (first | (replace HX := hide (HX.out.to hb)) | (replace HX := hide (HX.out.drew.to hb)) | (replace HX := hide ((HX.out.alloc _ _).to hb)) | (replace HX := hide ((HX.out.alloc _ _).drew.to hb))); have hkwT := keeps hb; have hawT := keepsB wT; (first | have hr2 := HX.out.r5 | have hr2 := HX.out.r4); (try simp only [World.size_alloc] at hr2); clear hb) | (go_at_call 33; (first | (with_reducible refine (P2.out _).mono ?_)); rintro e wP ⟨rfl, hb⟩; have nnwP : wr.heap.size < wP.heap.size := (by have hz := hb.size; (try simp at hz); omega); have mmwP : ¬ wP.heap.size = wr.heap.size ∧ ¬ wP.heap.size = w.heap.size + 1 ∧ ¬ wP.heap.size = w1.heap.size := (by omega); (first | (replace HX := hide (HX.out.to hb)) | (replace HX := hide (HX.out.drew.to hb)) | (replace HX := hide ((HX.out.alloc _ _).to hb)) | (replace HX := hide ((HX.out.alloc _ _).drew.to hb))); have hkwP := keeps hb; have hawP := keepsB wP; (first | have hr2 := HX.out.r5 | have hr2 := HX.out.r4); (try simp only [World.size_alloc] at hr2); clear hb))
      all_goals
        go_wp2_with fail
        refine (Q2.out _).mono ?_
        rintro e wB ⟨rfl, hb⟩
        (first
          | (have HZ := hide ((HX.out.put2 (by omega) (by simp only [List.mem_cons, List.not_mem_nil, or_false]; rintro x (rfl | rfl | rfl | rfl | rfl) <;> simp <;> omega) _ _).to hb).tail.tail)
          | (have HZ := hide ((HX.out.alloc _ _).to hb).tail.tail))
        have HV : Hid (Own w wB [(w.heap.size + 1 + 1, 80, #[.int .i64 m1h, .int .i64 m1l]), (w1.heap.size, 205, #[.int .i64 sx, .int .i64 sy, .int .i64 sz, .int .i64 tx, .int .i64 ty, .int .i64 tz, .int .i64 ux, .int .i64 uy, .int .i64 uz]), (w.heap.size + 1, 55, #[.int .i64 p.x, .int .i64 p.y]), (w.heap.size, 52, #[.slice A1' m.ss.length c1, .slice A2' m.fs.length c2])]) := HZ
        clear HX hr hr2 hb HZ
        have hr := HV.out.r4
        go_wp2
        go_roundw
        case rel =>
          refine ⟨3, by omega, by go_num, ?_⟩
          rw [h3.out]
          exact hide (HV.out.put2 (by omega) (by simp only [List.mem_cons, List.not_mem_nil, or_false]; rintro x (rfl | rfl | rfl) <;> simp <;> omega) _ _)
        case measure => simp [intOf]
    · rw [h3.out] at HX
      have hr := HX.out.r4
      have NE := ownw_ne HX.out
      have C1 := ownw_r4 HX.out
      go_upto_region 12 with (fail)
      refine wp_region_own_tail (w := w) 11 (by kernel_rfl) (by kernel_rfl) HX.out ?_
      simp only [List.take_succ_cons, List.take_zero, List.drop_succ_cons, List.drop_zero]
      repeat (go_big_quiet_step ((rename_i y; first | with_reducible exact own_call (A0.out _) | with_reducible exact own_call (A1.out _) | with_reducible exact own_call (A2.out _) | with_reducible exact own_call (TD.out _))))
      refine wpQuiet_nil ?_
      rintro W ⟨⟨W, HO⟩, rfl⟩
      have hr := HO.r4
      have HB := hide HO.1
      clear C1 NE HX
      go_wp2
      refine bodyPost_ret (v := .tuple #[.agg #[.int .i64 Nh, .int .i64 Nl], .int .i64 D, .int .i64 0]) (by simp [results, Tryz.results135, hr, go_sem]) rfl ⟨rfl, ?_⟩
      exact below_set (below_set HB.out (by omega) _) (by omega) _
end Go.Proofs.YtlnlaopokelggaaGreatDoor

namespace Go.Proofs.YtlnlaopokelggaaGreatDoor
open Go Go.RowKit

def exR (m : Msh) (p : Pnt) : Int × Int × Int := match fdA m p with | some i => (numA m.ss (fcA m.fs i) p, denA m.ss (fcA m.fs i), 0) | none => (0, 0, 12)
set_option maxHeartbeats 2000000 in
theorem lcExact_any (m : Msh) (a : MshA) (p : Pnt) (w : World) (hm : MshSl w m a) (ht : Lib.TabIs Tryz.prog w "internal/strconv.uint64pow10" .u64 Lib.pow10Tab) (hv : vM m = true) (hp : p.in) :
    Calls Tryz.prog 118 #[m.val a, p.val] w (RetW (.tuple #[WV (exR m p).1, .int .i64 (exR m p).2.1, .int .i64 (exR m p).2.2]) w) := by
  have ON := hide (fun W h h' => lcon_any m a p W h h' hv hp)
  have EX := hide (fun W k (hk : k < m.fs.length) h => lcexact_any m a k p W h hk (okF_of hv hk) hp)
  have HM := hide hm
  have HT := hide ht
  unfold RetW at ON EX
  have ways : (∃ k : Nat, ∃ hk : k < m.fs.length, fdA m p = some k ∧ exR m p = (numA m.ss m.fs[k] p, denA m.ss m.fs[k], 0)) ∨ (fdA m p = none ∧ exR m p = (0, 0, 12)) := by
    unfold exR
    cases e : fdA m p with
    | some k =>
      obtain ⟨hk, _⟩ := fdA_some.1 e
      exact .inl ⟨k, hk, rfl, by simp [fcA, hk]⟩
    | none => exact .inr ⟨rfl, rfl⟩
  obtain ⟨A1, c1, A2, c2⟩ := a
  have X := (((Own.start w).alloc #[.slice A1 m.ss.length c1, .slice A2 m.fs.length c2] 52).alloc #[.int .i64 p.x, .int .i64 p.y] 55).alloc #[.int .i64 0, .int .i64 0] 80
  simp only [World.size_alloc] at X
  have hr := X.r3
  clear hm ht hv hp
  rcases ways with ⟨k, hk, ef, er⟩ | ⟨ef, er⟩
  · have EXk := hide (fun W h => EX.out W k hk h)
    rw [ef] at ON
    rw [er]
    clear EX ef er
    generalize numA m.ss m.fs[k] p = N at *
    generalize denA m.ss m.fs[k] = D at *
    show Calls _ _ _ _ (RetW (.tuple #[WV N, .int .i64 D, .int .i64 0]) w)
    unfold WV at *
    generalize N / 1152921504606846976 = Nh at *
    generalize N % 1152921504606846976 = Nl at *
    simp only [onR] at ON
    go_enter Tryz.func118, Tryz.ntmps118
    go_wp2_with fail
    refine (ON.out _ (HM.out.below X.1) (tab_below HT.out X.1)).mono ?_
    rintro e w1 ⟨rfl, hb⟩
    replace X := X.to hb
    clear hr hb
    have hr := X.r3
    go_wp2_with fail
    refine (EXk.out _ (HM.out.below X.1)).mono ?_
    rintro e w2 ⟨rfl, hb⟩
    replace X := X.to hb
    clear hr hb
    have hr := X.r3
    go_wp2
    refine bodyPost_ret (v := .tuple #[.agg #[.int .i64 Nh, .int .i64 Nl], .int .i64 D, .int .i64 0]) (by simp [results, Tryz.results118, hr, go_sem]) rfl ⟨rfl, ?_⟩
    exact below_set (below_set X.1 (by omega) _) (by omega) _
  · rw [ef] at ON
    rw [er]
    clear EX ef er
    show Calls _ _ _ _ (RetW (.tuple #[.agg #[.int .i64 0, .int .i64 0], .int .i64 0, .int .i64 12]) w)
    simp only [onR] at ON
    go_enter Tryz.func118, Tryz.ntmps118
    go_wp2_with fail
    refine (ON.out _ (HM.out.below X.1) (tab_below HT.out X.1)).mono ?_
    rintro e w1 ⟨rfl, hb⟩
    replace X := X.to hb
    clear hr hb
    have hr := X.r3
    go_wp2
    refine bodyPost_ret (v := .tuple #[.agg #[.int .i64 0, .int .i64 0], .int .i64 0, .int .i64 12]) (by simp [results, Tryz.results118, hr, go_sem]) rfl ⟨rfl, ?_⟩
    first
    | exact below_set (below_set X.1 (by omega) _) (by omega) _
    | exact X.1
def lvR (o : Option Sp) : Sp × Int := match o with | some s => (s, 0) | none => (Sp.zero, 12)
set_option maxHeartbeats 2000000 in
theorem lclevel_any (m : Msh) (a : MshA) (p : Pnt) (w : World) (hm : MshSl w m a) (ht : Lib.TabIs Tryz.prog w "internal/strconv.uint64pow10" .u64 Lib.pow10Tab) (hv : vM m = true) (hp : p.in) :
    Calls Tryz.prog 101 #[m.val a, p.val] w (RetW (.tuple #[(lvR (lvA m p)).1.val, .int .i64 (lvR (lvA m p)).2]) w) := by
  have EX := hide (fun W h h' => lcExact_any m a p W h h' hv hp)
  have HM := hide hm
  have HT := hide ht
  unfold RetW at EX
  have ways : (∃ N D : Int, wideB N ∧ 0 < D ∧ D ≤ 2251799813685248 ∧ exR m p = (N, D, 0) ∧ lvR (lvA m p) = (⟨dn N D, up N D⟩, 0) ∧ i64B (dn N D) = true ∧ i64B (up N D) = true) ∨ (exR m p = (0, 0, 12) ∧ lvR (lvA m p) = (Sp.zero, 12)) := by
    unfold exR lvA
    cases e : fdA m p with
    | none => exact .inr ⟨rfl, rfl⟩
    | some k =>
      obtain ⟨hk, ho, _⟩ := fdA_some.1 e
      have ef : fcA m.fs k = m.fs[k] := by simp [fcA, hk]
      have OF := onF_of (okF_of hv hk) ho
      have nb := OF.num
      have db := OF.d
      have de := trn_bd2 OF.i.1 OF.i.2.1 OF.i.2.2
      have lb := OF.lv
      have hD : denA m.ss m.fs[k] ≤ 2251799813685248 := de.2
      refine .inl ⟨numA m.ss m.fs[k] p, denA m.ss m.fs[k], ⟨by omega, by omega⟩, db, hD, by simp only [ef], by simp only [Option.map_some, lvR, lvS, ef], ?_, ?_⟩
      · rw [i64B_iff]
        have l1 : -4194304 ≤ dn (numA m.ss m.fs[k] p) (denA m.ss m.fs[k]) ∧ dn (numA m.ss m.fs[k] p) (denA m.ss m.fs[k]) ≤ 4194304 := lb.1
        omega
      · rw [i64B_iff]
        have l1 : -4194304 ≤ up (numA m.ss m.fs[k] p) (denA m.ss m.fs[k]) ∧ up (numA m.ss m.fs[k] p) (denA m.ss m.fs[k]) ≤ 4194304 := lb.2.1
        omega
  obtain ⟨A1, c1, A2, c2⟩ := a
  have X := (((Own.start w).alloc #[.slice A1 m.ss.length c1, .slice A2 m.fs.length c2] 52).alloc #[.int .i64 p.x, .int .i64 p.y] 55).alloc #[.int .i64 0, .int .i64 0] 40
  simp only [World.size_alloc] at X
  have hr := X.r3
  clear hm ht hv hp
  rcases ways with ⟨N, D, hN, hD0, hD1, ee, er, b1, b2⟩ | ⟨ee, er⟩
  · have FL := hide (fun W => wsfloor_any N D W hN (by omega) ⟨by omega, by omega⟩)
    have CL := hide (fun W => wsceil_any N D W hN (by omega) ⟨by omega, by omega⟩)
    unfold RetW at FL CL
    rw [(i64_yes b1).1, (i64_yes b1).2] at FL
    rw [(i64_yes b2).1, (i64_yes b2).2] at CL
    rw [ee] at EX
    rw [er]
    clear ee er b1 b2 hN hD0 hD1
    show Calls _ _ _ _ (RetW (.tuple #[.agg #[.int .i64 (dn N D), .int .i64 (up N D)], .int .i64 0]) w)
    simp only at EX
    unfold WV at *
    generalize dn N D = lo at *
    generalize up N D = hi at *
    generalize N / 1152921504606846976 = Nh at *
    generalize N % 1152921504606846976 = Nl at *
    go_enter Tryz.func101, Tryz.ntmps101
    go_wp2_with fail
    refine (EX.out _ (HM.out.below X.1) (tab_below HT.out X.1)).mono ?_
    rintro e w1 ⟨rfl, hb⟩
    replace X := (X.to hb).alloc #[.int .i64 Nh, .int .i64 Nl] 80
    clear hr hb
    have hr := X.r4
    go_wp2_with fail
    refine (FL.out _).mono ?_
    rintro e w2 ⟨rfl, hb⟩
    replace X := X.to hb
    clear hr hb
    have hr := X.r4
    go_wp2_with fail
    refine (CL.out _).mono ?_
    rintro e w3 ⟨rfl, hb⟩
    replace X := X.to hb
    clear hr hb
    have hr := X.r4
    go_wp2
    refine bodyPost_ret (v := .tuple #[.agg #[.int .i64 lo, .int .i64 hi], .int .i64 0]) (by simp [results, Tryz.results101, hr, go_sem]) rfl ⟨rfl, ?_⟩
    exact below_set (below_set X.1 (by omega) _) (by omega) _
  · rw [ee] at EX
    rw [er]
    clear ee er
    show Calls _ _ _ _ (RetW (.tuple #[.agg #[.int .i64 0, .int .i64 0], .int .i64 12]) w)
    simp only at EX
    have e00 : (0 : Int) / 1152921504606846976 = 0 := by decide
    have e01 : (0 : Int) % 1152921504606846976 = 0 := by decide
    unfold WV at *
    rw [e00, e01] at EX
    clear e00 e01
    go_enter Tryz.func101, Tryz.ntmps101
    go_wp2_with fail
    refine (EX.out _ (HM.out.below X.1) (tab_below HT.out X.1)).mono ?_
    rintro e w1 ⟨rfl, hb⟩
    replace X := (X.to hb).alloc #[.int .i64 0, .int .i64 0] 80
    clear hr hb
    have hr := X.r4
    go_wp2
    refine bodyPost_ret (v := .tuple #[.agg #[.int .i64 0, .int .i64 0], .int .i64 12]) (by simp [results, Tryz.results101, hr, go_sem]) rfl ⟨rfl, ?_⟩
    first
    | exact below_set (below_set X.1 (by omega) _) (by omega) _
    | exact X.1
end Go.Proofs.YtlnlaopokelggaaGreatDoor

namespace Go.Proofs.YtlnlaopokelggaaGreatDoor
open Go Go.RowKit

theorem floor16 {n q r : Int} (hq : q = n.tdiv 16) (hr : r = n.tmod 16) : (r < 0 → n / 16 = q - 1) ∧ (¬ r < 0 → n / 16 = q) := by
  have e := Int.mul_tdiv_add_tmod n 16
  have r1 : n.tmod 16 < 16 := Int.tmod_lt_of_pos n (by omega)
  have r2 : -16 < n.tmod 16 := by
    rcases Int.lt_or_le n 0 with h | h
    · have h3 := Int.tmod_lt_of_pos (-n) (show (0 : Int) < 16 by omega)
      rw [Int.neg_tmod] at h3
      omega
    · have := Int.tmod_nonneg 16 h
      omega
  rw [← hq, ← hr] at e
  rw [← hr] at r1 r2
  omega
set_option maxHeartbeats 1000000 in
theorem tsfloor_any (n : Int) (w : World) (hn : -1073741824 ≤ n ∧ n ≤ 1073741824) : Calls Tryz.prog 117 #[.int .i64 n, .int .i64 16] w (fun e w' => e = .returned (.int .i64 (n / 16)) ∧ w = w') := by
  obtain ⟨q, hq⟩ : ∃ q, q = n.tdiv 16 := ⟨_, rfl⟩
  obtain ⟨r, hr⟩ : ∃ r, r = n.tmod 16 := ⟨_, rfl⟩
  obtain ⟨f1, f2⟩ := floor16 hq hr
  by_cases h : r < 0
  · have e := f1 h
    rw [e]
    have w1 : IntKind.i64.wrap (n.tdiv 16) = q := by rw [← hq]; exact IntWalk.i64_in _ (by omega)
    have w2 : n.tmod 16 = r := hr.symm
    have w4 : IntKind.i64.wrap (q - 1) = q - 1 := IntWalk.i64_in _ (by omega)
    have g : decide (r < 0) = true := decide_eq_true h
    clear f1 f2 e h hq hr
    go_enter Tryz.func117, Tryz.ntmps117
    go_wp2
    go_ret
    exact ⟨rfl, rfl⟩
  · have e := f2 h
    rw [e]
    have w1 : IntKind.i64.wrap (n.tdiv 16) = q := by rw [← hq]; exact IntWalk.i64_in _ (by omega)
    have w2 : n.tmod 16 = r := hr.symm
    have g : decide (r < 0) = false := decide_eq_false h
    clear f1 f2 e h hq hr
    go_enter Tryz.func117, Tryz.ntmps117
    go_wp2
    go_ret
    exact ⟨rfl, rfl⟩
set_option maxHeartbeats 2000000 in
/-- line at a valid surface that lies in a box, two valid points that are not the same -/
theorem tsline_any (m : Msh) (a : MshA) (bm : Nat) (p q : Pnt) (w : World) (hB : Blk w bm 52 (m.cells a)) (hm : MshSl w m a) (ht : Lib.TabIs Tryz.prog w "internal/strconv.uint64pow10" .u64 Lib.pow10Tab) (hv : vM m = true) (hp : p.in) (hq : q.in) (hne : p ≠ q) :
    Calls Tryz.prog 98 #[.pointer (some ⟨bm, 0, none⟩), p.val, q.val] w (RetW (.int .i64 0) w) := by
  have MV := hide (fun W h h' => msvalid_any m a W h h')
  rw [hv] at MV
  have P1 := hide (fun W => plvalid_any p W)
  have P2 := hide (fun W => plvalid_any q W)
  rw [inP_iff.2 hp] at P1
  rw [inP_iff.2 hq] at P2
  unfold RetW at MV P1 P2
  have HM := hide hm
  have HT := hide ht
  have nb := hB.lt
  obtain ⟨A1, c1, A2, c2⟩ := a
  have X := ((show Own w w [(bm, 52, #[.slice A1 m.ss.length c1, .slice A2 m.fs.length c2])] from ⟨Below.refl _ _, fun x hx => by rw [List.mem_singleton.1 hx]; exact hB⟩).alloc #[.int .i64 p.x, .int .i64 p.y] 55).alloc #[.int .i64 q.x, .int .i64 q.y] 55
  simp only [World.size_alloc] at X
  have hr := X.r3
  have hrB := hB.rules
  have n1 : ¬ bm = w.heap.size := by omega
  have n2 : ¬ bm = w.heap.size + 1 := by omega
  have ne : (decide (p.x = q.x) && decide (p.y = q.y)) = false := by
    cases h1 : decide (p.x = q.x) <;> cases h2 : decide (p.y = q.y) <;> simp
    exact hne (by cases p; cases q; simp_all)
  clear hm ht hv hp hq hne hB
  have ways : (p.x == q.x) = false ∨ ((p.x == q.x) = true ∧ (p.y == q.y) = false) := by
    have e1 : (p.x == q.x) = decide (p.x = q.x) := by rw [Bool.eq_iff_iff]; simp
    have e2 : (p.y == q.y) = decide (p.y = q.y) := by rw [Bool.eq_iff_iff]; simp
    rw [e1, e2]
    cases h1 : decide (p.x = q.x) <;> cases h2 : decide (p.y = q.y) <;> simp_all
  clear ne
  rcases ways with q1 | ⟨q1, q2⟩
  all_goals
    go_enter Tryz.func98, Tryz.ntmps98
    go_wp2_with fail
    refine (MV.out _ (HM.out.below X.1) (tab_below HT.out X.1)).mono ?_
    rintro e w1 ⟨rfl, hb⟩
    replace X := X.to hb
    clear hr hb hrB
    have hr := X.r3
    go_wp2_with fail
    refine (P1.out _).mono ?_
    rintro e w2 ⟨rfl, hb⟩
    replace X := X.to hb
    clear hr hb
    have hr := X.r3
    go_wp2_with fail
    refine (P2.out _).mono ?_
    rintro e w3 ⟨rfl, hb⟩
    replace X := X.to hb
    clear hr hb
    have hr := X.r3
    go_wp2
    go_ret
    exact ⟨rfl, X.1⟩
end Go.Proofs.YtlnlaopokelggaaGreatDoor
