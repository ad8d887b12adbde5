/- The reference's Twice, Exact and Level of a point on a face; nothing that was there is turned (printed by gen_trb.py). -/
import Derived.Test.YtbmocghfpcfmhaaGreatDoorPkCostsTrenches8
import Derived.Test.YtbmocghfpcfmhaaGreatDoorPkCostsTrenches10
import Derived.Test.YtbmocghfpcfmhaaGreatDoorPkCostsTrenches2
import Derived.Test.YtbmocghfpcfmhaaGreatDoorPkCostsTrenches7
import Derived.Test.YtbmocghfpcfmhaaGreatDoorPkCostsTrenches14
namespace Go.Proofs.YtbmocghfpcfmhaaGreatDoor
open Go Go.RowKit

theorem own_new {w W : World} {L : List (Nat × TypeId × Array Value)} {b : Nat} (h : Own w W L) (hb : b < w.heap.size) : ¬ W.heap.size = b := by have := h.1.size; omega
theorem own_hd {w W : World} {b : Nat} {t : TypeId} {c : Array Value} {L : List (Nat × TypeId × Array Value)} (h : Own w W ((b, t, c) :: L)) : b < W.heap.size := (h.2 (b, t, c) (by simp)).lt
theorem own_far {w W : World} {L : List (Nat × TypeId × Array Value)} (h : Own w W L) : ∀ x ∈ L, ¬ W.heap.size = x.1 := fun x hx => by have := (h.2 x hx).lt; omega
theorem own_nes5 {w W : World} {b0 b1 b2 b3 b4 : Nat} {t0 t1 t2 t3 t4 : TypeId} {c0 c1 c2 c3 c4 : Array Value} {L} (h : Own w W ((b0, t0, c0) :: (b1, t1, c1) :: (b2, t2, c2) :: (b3, t3, c3) :: (b4, t4, c4) :: L)) : ¬ W.heap.size = b0 ∧ ¬ W.heap.size = b1 ∧ ¬ W.heap.size = b2 ∧ ¬ W.heap.size = b3 ∧ ¬ W.heap.size = b4 :=
  ⟨own_far h (b0, t0, c0) (by simp), own_far h (b1, t1, c1) (by simp), own_far h (b2, t2, c2) (by simp), own_far h (b3, t3, c3) (by simp), own_far h (b4, t4, c4) (by simp)⟩
theorem own_nes6 {w W : World} {b0 b1 b2 b3 b4 b5 : Nat} {t0 t1 t2 t3 t4 t5 : TypeId} {c0 c1 c2 c3 c4 c5 : Array Value} {L} (h : Own w W ((b0, t0, c0) :: (b1, t1, c1) :: (b2, t2, c2) :: (b3, t3, c3) :: (b4, t4, c4) :: (b5, t5, c5) :: L)) : ¬ W.heap.size = b0 ∧ ¬ W.heap.size = b1 ∧ ¬ W.heap.size = b2 ∧ ¬ W.heap.size = b3 ∧ ¬ W.heap.size = b4 ∧ ¬ W.heap.size = b5 :=
  ⟨own_far h (b0, t0, c0) (by simp), own_far h (b1, t1, c1) (by simp), own_far h (b2, t2, c2) (by simp), own_far h (b3, t3, c3) (by simp), own_far h (b4, t4, c4) (by simp), own_far h (b5, t5, c5) (by simp)⟩
theorem own_nes7 {w W : World} {b0 b1 b2 b3 b4 b5 b6 : Nat} {t0 t1 t2 t3 t4 t5 t6 : TypeId} {c0 c1 c2 c3 c4 c5 c6 : Array Value} {L} (h : Own w W ((b0, t0, c0) :: (b1, t1, c1) :: (b2, t2, c2) :: (b3, t3, c3) :: (b4, t4, c4) :: (b5, t5, c5) :: (b6, t6, c6) :: L)) : ¬ W.heap.size = b0 ∧ ¬ W.heap.size = b1 ∧ ¬ W.heap.size = b2 ∧ ¬ W.heap.size = b3 ∧ ¬ W.heap.size = b4 ∧ ¬ W.heap.size = b5 ∧ ¬ W.heap.size = b6 :=
  ⟨own_far h (b0, t0, c0) (by simp), own_far h (b1, t1, c1) (by simp), own_far h (b2, t2, c2) (by simp), own_far h (b3, t3, c3) (by simp), own_far h (b4, t4, c4) (by simp), own_far h (b5, t5, c5) (by simp), own_far h (b6, t6, c6) (by simp)⟩
theorem Own.put3 {w W : World} {b : Nat} {t : TypeId} {c0 c1 c2 : Value} {L : List (Nat × TypeId × Array Value)} (h : Own w W ((b, t, #[c0, c1, c2]) :: L)) (hb : w.heap.size ≤ b) (hn : ∀ x ∈ L, x.1 ≠ b) (u0 u1 u2 : Value) :
    Own w (((W.setCell ⟨b, 0, none⟩ u0).setCell ⟨b, 1, none⟩ u1).setCell ⟨b, 2, none⟩ u2) ((b, t, #[u0, u1, u2]) :: L) := ((h.set0 hb hn 0 u0).set0 hb hn 1 u1).set0 hb hn 2 u2
/-- an integer of two words and a sign -/
def NZ (z : Int) : Value := .agg #[.int .u64 ((z.natAbs / 18446744073709551616 : Nat) : Int), .int .u64 ((z.natAbs % 18446744073709551616 : Nat) : Int), .bool (decide (z < 0))]
theorem nz_some (z : Int) : ∃ (h l : Nat) (s : Bool), NZ z = .agg #[.int .u64 (h : Int), .int .u64 (l : Int), .bool s] := ⟨_, _, _, rfl⟩
theorem nm_nz {z : Int} (h : z.natAbs < 340282366920938463463374607431768211456) : Nm (z.natAbs / 18446744073709551616) (z.natAbs % 18446744073709551616) (decide (z < 0)) z := ⟨⟨by omega, by omega, by omega⟩, rfl⟩
theorem NmPost.nz {z : Int} {w : World} {e : Ending} {w' : World} (h : NmPost z w e w') : e = .returned (NZ z) ∧ Below w.heap.size w w' := by
  obtain ⟨⟨h', l, s, rfl, ⟨⟨h1, h2, h3⟩, rfl⟩⟩, hb⟩ := h
  refine ⟨?_, hb⟩
  unfold NZ
  have e1 : z.natAbs / 18446744073709551616 = h' := by omega
  have e2 : z.natAbs % 18446744073709551616 = l := by omega
  show _ = Ending.returned (Value.agg #[.int .u64 ((z.natAbs / 18446744073709551616 : Nat) : Int), .int .u64 ((z.natAbs % 18446744073709551616 : Nat) : Int), .bool (decide (z < 0))])
  rw [e1, e2]
theorem nztimes (a b : Int) (w : World) (ha : -9223372036854775808 ≤ a ∧ a ≤ 9223372036854775807) (hb : -9223372036854775808 ≤ b ∧ b ≤ 9223372036854775807) :
    Calls Tryz.prog 70 #[.int .i64 a, .int .i64 b] w fun e w' => e = .returned (NZ (a * b)) ∧ Below w.heap.size w w' := (n3times a b w ha hb).mono fun _ _ h => h.nz
theorem nzsum (a b : Int) (w : World) (h : a.natAbs + b.natAbs < 340282366920938463463374607431768211456) :
    Calls Tryz.prog 143 #[NZ a, NZ b] w fun e w' => e = .returned (NZ (a + b)) ∧ Below w.heap.size w w' := (n3sum (nm_nz (by omega)) (nm_nz (by omega)) h w).mono fun _ _ h => h.nz
theorem nzofint (a : Int) (w : World) (ha : -9223372036854775808 ≤ a ∧ a ≤ 9223372036854775807) :
    Calls Tryz.prog 71 #[.int .i64 a] w fun e w' => e = .returned (NZ a) ∧ Below w.heap.size w w' := (n3ofint a w ha).mono fun _ _ h => h.nz
theorem nzdown (a b : Int) (w : World) (ha : a.natAbs < 340282366920938463463374607431768211456) (hb : b.natAbs < 340282366920938463463374607431768211456) (h0 : b ≠ 0) :
    Calls Tryz.prog 69 #[NZ a, NZ b] w fun e w' => e = .returned (NZ (fdv a b)) ∧ Below w.heap.size w w' := (n3down (nm_nz ha) (nm_nz hb) h0 w).mono fun _ _ h => h.nz
theorem nzup (a b : Int) (w : World) (ha : a.natAbs < 340282366920938463463374607431768211456) (hb : b.natAbs < 340282366920938463463374607431768211456) (h0 : b ≠ 0) :
    Calls Tryz.prog 72 #[NZ a, NZ b] w fun e w' => e = .returned (NZ (cdv a b)) ∧ Below w.heap.size w w' := (n3up (nm_nz ha) (nm_nz hb) h0 w).mono fun _ _ h => h.nz
theorem nzisint (a : Int) (w : World) (ha : fitsI a = true) :
    Calls Tryz.prog 68 #[NZ a] w fun e w' => e = .returned (.tuple #[.int .i64 a, .bool true]) ∧ Below w.heap.size w w' :=
  (n3isint (nm_nz (by simp only [fitsI, decide_eq_true_eq] at ha; omega)) w).mono fun _ _ h => by
    obtain ⟨⟨v, rfl, hv⟩, hb⟩ := h
    rw [ha, hv ha]; exact ⟨rfl, hb⟩
theorem fdv_dn {x y : Int} (h : 0 < y) : fdv x y = dn x y := by rw [fdv_pos h]; unfold dn; rw [if_neg (by omega)]
theorem cdv_up {x y : Int} (h : 0 < y) : cdv x y = up x y := by rw [cdv_pos h]; unfold up dn; rw [if_neg (by omega)]
set_option maxRecDepth 100000 in
set_option maxHeartbeats 2000000 in
theorem mrtwice_any (m : Msh) (a : MshA) (i : Nat) (w : World) (hm : MshSl w m a) (hi : i < m.fs.length) (hk : OkF m.ss m.fs[i]) :
    Calls Tryz.prog 144 #[m.val a, .int .i64 (i : Int)] w (RetW (.int .i64 (denA m.ss m.fs[i])) w) := by
  obtain ⟨ss, fs⟩ := m
  obtain ⟨A1, c1, A2, c2⟩ := a
  have hi' : i < fs.length := hi
  obtain ⟨b, off, eA, hbl, hat⟩ := hm.2.2 (by show 0 < fs.length; omega)
  obtain rfl : A2 = some ⟨b, off, none⟩ := eA
  obtain ⟨f0, f1, f2, f3⟩ := hat i hi'
  obtain ⟨ka, hka, ea, -⟩ := spA_nat hk.a
  obtain ⟨kb, hkb, eb, -⟩ := spA_nat hk.b
  obtain ⟨kc, hkc, ec, -⟩ := spA_nat hk.c
  have hlen : fs.length ≤ 9223372036854775807 := hm.2.1.1
  obtain ⟨T, hT⟩ : ∃ T, T = triA ss fs[i] := ⟨_, rfl⟩
  have hTi : T.in := by rw [hT]; exact hk.i
  have ef : fs[i] = ⟨ka, kb, kc, fs[i].k⟩ := by
    have h0 : fs[i] = ⟨fs[i].a, fs[i].b, fs[i].c, fs[i].k⟩ := rfl
    rw [h0]; congr
  have eT2 : triA ss ⟨ka, kb, kc, fs[i].k⟩ = T := by rw [hT, ← ef]
  have eD : denA (Msh.mk ss fs).ss ((Msh.mk ss fs).fs[i]) = trn T.p T.q T.r := by rw [hT]; rfl
  rw [eD]
  replace f0 : w.cell? ⟨b, off + i * 4, none⟩ = some (.int .i64 (ka : Int)) := by rw [f0]; congr
  replace f1 : w.cell? ⟨b, off + i * 4 + 1, none⟩ = some (.int .i64 (kb : Int)) := by rw [f1]; congr
  replace f2 : w.cell? ⟨b, off + i * 4 + 2, none⟩ = some (.int .i64 (kc : Int)) := by rw [f2]; congr
  replace f3 : w.cell? ⟨b, off + i * 4 + 3, none⟩ = some (.int .i64 fs[i].k) := f3
  have X := (Own.start w).alloc #[.slice A1 ss.length c1, .slice (some ⟨b, off, none⟩) fs.length c2] 25
  have TR := hide (fun (x : OwnW w [(w.heap.size, 25, #[.slice A1 ss.length c1, .slice (some ⟨b, off, none⟩) fs.length c2])]) => mrtrn_any ⟨ss, fs⟩ ⟨A1, c1, some ⟨b, off, none⟩, c2⟩ ka kb kc fs[i].k x.W (hm.below x.own.1) hka hkb hkc T eT2 hTi)
  unfold RetW at TR
  generalize fs[i].k = fk at *
  generalize trn T.p T.q T.r = n at *
  have g0 : (0 : Int) ≤ (i : Int) := by omega
  have g1 : (i : Int) < (fs.length : Int) := by omega
  have n1 : ¬ b = w.heap.size := by omega
  have NE := ownw_ne X
  have C1 := ownw_r1 X
  have D0 := ownw_old X hbl f0
  have D1 := ownw_old X hbl f1
  have D2 := ownw_old X hbl f2
  have D3 := ownw_old X hbl f3
  show Calls _ _ #[.agg #[.slice A1 ss.length c1, .slice (some ⟨b, off, none⟩) fs.length c2], _] w _
  clear hat hm hi hk ea eb ec hT ef eT2 eD f0 f1 f2 f3 hTi
  go_enter Tryz.func144, Tryz.ntmps144
  go_wp2
  refine wp_region_own (w := w) (L := [(w.heap.size, 25, #[.slice A1 ss.length c1, .slice (some ⟨b, off, none⟩) fs.length c2])]) (by kernel_rfl) (by kernel_rfl) X ?_
  repeat (go_big_quiet_step ((rename_i x; first | with_reducible exact own_call (TR.out x))))
  refine wpQuiet_nil ?_
  rintro W ⟨⟨W, HX⟩, rfl⟩
  have XB := hide HX.1
  go_wp2
  go_ret
  exact ⟨rfl, XB.out⟩
theorem zt_bd3 {z w : Int} (hz : -4194304 ≤ z ∧ z ≤ 4194304) (hw : -2251799813685248 ≤ w ∧ w ≤ 2251799813685248) : (z * w).natAbs ≤ 9444732965739290427392 := by
  have h1 : z.natAbs ≤ 4194304 := by omega
  have h2 : w.natAbs ≤ 2251799813685248 := by omega
  have h3 := Nat.mul_le_mul h1 h2
  have e := Int.natAbs_mul z w
  omega
set_option maxRecDepth 100000 in
set_option maxHeartbeats 8000000 in
theorem mrexact_any (m : Msh) (a : MshA) (i : Nat) (p : Pnt) (w : World) (hm : MshSl w m a) (hi : i < m.fs.length) (hk : OkF m.ss m.fs[i]) (hp : p.in) :
    Calls Tryz.prog 116 #[m.val a, .int .i64 (i : Int), p.val] w (RetW (.tuple #[NZ (numA m.ss m.fs[i] p), .int .i64 (denA m.ss m.fs[i])]) w) := by
  have TW := hide (fun W h => mrtwice_any m a i W h hi hk)
  have HM := hide hm
  obtain ⟨ss, fs⟩ := m
  obtain ⟨A1, c1, A2, c2⟩ := a
  have hi' : i < fs.length := hi
  have hs0 : 0 < ss.length := by have := hk.a; simp only at this; omega
  obtain ⟨b, off, eA, hbl, hat⟩ := hm.2.2 (by show 0 < fs.length; omega)
  obtain rfl : A2 = some ⟨b, off, none⟩ := eA
  obtain ⟨b', off', eA', hbl', hat'⟩ := hm.1.2 hs0
  obtain rfl : A1 = some ⟨b', off', none⟩ := eA'
  obtain ⟨f0, f1, f2, f3⟩ := hat i hi'
  obtain ⟨ka, hka, ea, sa⟩ := spA_nat hk.a
  obtain ⟨kb, hkb, eb, sb⟩ := spA_nat hk.b
  obtain ⟨kc, hkc, ec, sc⟩ := spA_nat hk.c
  have hka' : ka < ss.length := hka
  have hkb' : kb < ss.length := hkb
  have hkc' : kc < ss.length := hkc
  have za := hk.za
  have zb := hk.zb
  have zc := hk.zc
  have zA := (hat' ka hka').2.2
  have zB := (hat' kb hkb').2.2
  have zC := (hat' kc hkc').2.2
  have hlen : fs.length ≤ 9223372036854775807 := hm.2.1.1
  have hlen' : ss.length ≤ 9223372036854775807 := hm.1.1.1
  obtain ⟨T, hT⟩ : ∃ T, T = triA ss fs[i] := ⟨_, rfl⟩
  have hTi : T.in := by rw [hT]; exact hk.i
  have ef : fs[i] = ⟨ka, kb, kc, fs[i].k⟩ := by
    have h0 : fs[i] = ⟨fs[i].a, fs[i].b, fs[i].c, fs[i].k⟩ := rfl
    rw [h0]; congr
  have eT2 : triA ss ⟨ka, kb, kc, fs[i].k⟩ = T := by rw [hT, ← ef]
  have TR := hide (fun W h => mrtri_any ⟨ss, fs⟩ ⟨some ⟨b', off', none⟩, c1, some ⟨b, off, none⟩, c2⟩ ka kb kc fs[i].k W h hka hkb hkc)
  simp only [eT2] at TR
  unfold TriPost at TR
  unfold RetW at TW
  replace sa : spA ss fs[i].a = ss[ka] := sa
  replace sb : spA ss fs[i].b = ss[kb] := sb
  replace sc : spA ss fs[i].c = ss[kc] := sc
  replace za : -4194304 ≤ (spA ss fs[i].a).z ∧ (spA ss fs[i].a).z ≤ 4194304 := za
  replace zb : -4194304 ≤ (spA ss fs[i].b).z ∧ (spA ss fs[i].b).z ≤ 4194304 := zb
  replace zc : -4194304 ≤ (spA ss fs[i].c).z ∧ (spA ss fs[i].c).z ≤ 4194304 := zc
  rw [sa] at za
  rw [sb] at zb
  rw [sc] at zc
  have EN : numA (Msh.mk ss fs).ss ((Msh.mk ss fs).fs[i]) p = ss[ka].z * trn p T.q T.r + (ss[kb].z * trn T.p p T.r + ss[kc].z * trn T.p T.q p) := by
    show (spA ss fs[i].a).z * trn p (triA ss fs[i]).q (triA ss fs[i]).r + (spA ss fs[i].b).z * trn p (triA ss fs[i]).r (triA ss fs[i]).p + (spA ss fs[i].c).z * trn p (triA ss fs[i]).p (triA ss fs[i]).q = _
    rw [sa, sb, sc, ← hT, trn_cyc T.p p T.r, trn_cyc T.p T.q p, trn_cyc T.q p T.p]; omega
  rw [EN]
  replace f0 : w.cell? ⟨b, off + i * 4, none⟩ = some (.int .i64 (ka : Int)) := by rw [f0]; congr
  replace f1 : w.cell? ⟨b, off + i * 4 + 1, none⟩ = some (.int .i64 (kb : Int)) := by rw [f1]; congr
  replace f2 : w.cell? ⟨b, off + i * 4 + 2, none⟩ = some (.int .i64 (kc : Int)) := by rw [f2]; congr
  replace f3 : w.cell? ⟨b, off + i * 4 + 3, none⟩ = some (.int .i64 fs[i].k) := f3
  have t0 := trn_bd2 hp hTi.2.1 hTi.2.2
  have t1 := trn_bd2 hTi.1 hp hTi.2.2
  have t2 := trn_bd2 hTi.1 hTi.2.1 hp
  have T0 := hide (fun W => mrturn_any p T.q T.r W hp hTi.2.1 hTi.2.2)
  have T1 := hide (fun W => mrturn_any T.p p T.r W hTi.1 hp hTi.2.2)
  have T2 := hide (fun W => mrturn_any T.p T.q p W hTi.1 hTi.2.1 hp)
  unfold RetW at T0 T1 T2
  generalize denA (Msh.mk ss fs).ss ((Msh.mk ss fs).fs[i]) = D at *
  generalize fs[i].k = fk at *
  generalize trn p T.q T.r = n0 at *
  generalize trn T.p p T.r = n1 at *
  generalize trn T.p T.q p = n2 at *
  generalize ss[ka].z = z0 at *
  generalize ss[kb].z = z1 at *
  generalize ss[kc].z = z2 at *
  have P0 := hide (fun W => nztimes z0 n0 W (by omega) (by omega))
  have P1 := hide (fun W => nztimes z1 n1 W (by omega) (by omega))
  have P2 := hide (fun W => nztimes z2 n2 W (by omega) (by omega))
  have b0 := zt_bd3 za t0
  have b1 := zt_bd3 zb t1
  have b2 := zt_bd3 zc t2
  generalize z0 * n0 = x0 at *
  generalize z1 * n1 = x1 at *
  generalize z2 * n2 = x2 at *
  have S1 := hide (fun W => nzsum x1 x2 W (by omega))
  have S2 := hide (fun W => nzsum x0 (x1 + x2) W (by omega))
  generalize x1 + x2 = x3 at *
  generalize x0 + x3 = x4 at *
  obtain ⟨h0, l0, s0, e0⟩ := nz_some x0
  obtain ⟨h1, l1, s1, e1⟩ := nz_some x1
  obtain ⟨h2, l2, s2, e2⟩ := nz_some x2
  obtain ⟨h3, l3, s3, e3⟩ := nz_some x3
  obtain ⟨h4, l4, s4, e4⟩ := nz_some x4
  rw [e4]
  simp only [e0] at P0 S2
  simp only [e1] at P1 S1
  simp only [e2] at P2 S1
  simp only [e3] at S1 S2
  simp only [e4] at S2
  clear e0 e1 e2 e3 e4
  clear za zb zc t0 t1 t2 b0 b1 b2 hTi hp EN ef eT2 hT sa sb sc ea eb ec hat hat' hm hk hi
  show Calls _ _ #[.agg #[.slice (some ⟨b', off', none⟩) ss.length c1, .slice (some ⟨b, off, none⟩) fs.length c2], _, _] w _
  have X := (((Own.start w).alloc #[.slice (some ⟨b', off', none⟩) ss.length c1, .slice (some ⟨b, off, none⟩) fs.length c2] 25).alloc #[.int .i64 p.x, .int .i64 p.y] 27).alloc #[.int .u64 0, .int .u64 0, .bool false] 113
  simp only [World.size_alloc] at X
  have g0 : (0 : Int) ≤ (i : Int) := by omega
  have g1 : (i : Int) < (fs.length : Int) := by omega
  have a0 : (0 : Int) ≤ (ka : Int) := by omega
  have a1 : (ka : Int) < (ss.length : Int) := by omega
  have d0 : (0 : Int) ≤ (kb : Int) := by omega
  have d1 : (kb : Int) < (ss.length : Int) := by omega
  have q0 : (0 : Int) ≤ (kc : Int) := by omega
  have q1 : (kc : Int) < (ss.length : Int) := by omega
  have nn1 : ¬ b = w.heap.size := by omega
  have nn2 : ¬ b = w.heap.size + 1 := by omega
  have nn3 : ¬ b = w.heap.size + 1 + 1 := by omega
  have KF := hide (fun W (h : Below w.heap.size w W) => And.intro ((h.cell (p := ⟨b, _, none⟩) hbl).trans f0) (And.intro ((h.cell (p := ⟨b, _, none⟩) hbl).trans f1) (And.intro ((h.cell (p := ⟨b, _, none⟩) hbl).trans f2) ((h.cell (p := ⟨b, _, none⟩) hbl).trans f3))))
  have OA := hide (fun (L : List (Nat × TypeId × Array Value)) W (h : Own w W L) => And.intro ((h.1.cell (p := ⟨b', _, none⟩) hbl').trans zA) (And.intro ((h.1.cell (p := ⟨b', _, none⟩) hbl').trans zB) ((h.1.cell (p := ⟨b', _, none⟩) hbl').trans zC)))
  have hr := X.r3
  obtain ⟨c0, c1', c2', c3⟩ := KF.out _ X.1
  clear f0 f1 f2 f3 zA zB zC
  go_enter Tryz.func116, Tryz.ntmps116
  go_wp2_with fail
  replace X := X.alloc #[.int .i64 ka, .int .i64 kb, .int .i64 kc, .int .i64 fk] 62
  simp only [World.size_alloc] at X
  refine (TR.out _ (HM.out.below X.1)).mono ?_
  rintro e w1 ⟨g, rfl, hB, hg, hb⟩
  have hw1 : w.heap.size + 1 + 1 + 1 < w1.heap.size := by have hz := hb.size; simp at hz; omega
  have hg1 : g < w1.heap.size := hB.lt
  have hg0 : w.heap.size + 1 + 1 + 1 < g := by simp at hg; omega
  have HX := hide ((X.to hb).cons hB)
  clear X hb hB hr c0 c1' c2' c3 TR KF hg
  go_upto_region 3 with (fail)
  go_cut [10] (fun v wx => ∃ bk : Nat, g + 1 ≤ bk ∧ v = .pointer (some ⟨bk, 0, none⟩) ∧ Hid (Own w wx ([(bk, 113, #[.int .u64 (h0 : Int), .int .u64 (l0 : Int), .bool s0]), (g, 27, #[.int .i64 T.p.x, .int .i64 T.p.y, .int .i64 T.q.x, .int .i64 T.q.y, .int .i64 T.r.x, .int .i64 T.r.y]), (w.heap.size + 1 + 1 + 1, 62, #[.int .i64 ka, .int .i64 kb, .int .i64 kc, .int .i64 fk]), (w.heap.size + 1 + 1, 113, #[.int .u64 0, .int .u64 0, .bool false]), (w.heap.size + 1, 27, #[.int .i64 p.x, .int .i64 p.y]), (w.heap.size, 25, #[.slice (some ⟨b', off', none⟩) ss.length c1, .slice (some ⟨b, off, none⟩) fs.length c2])])))
  case first =>
    have hr := HX.out.r5
    have dz := OA.out _ _ HX.out
    have mm0 := own_nes5 HX.out
    have mo0 := own_new HX.out hbl'
    go_region_held3 (fun w' => w'.cell? ⟨w.heap.size, 0, none⟩ = some (.slice (some ⟨b', off', none⟩) ss.length c1) ∧ w'.cell? ⟨w.heap.size + 1 + 1 + 1, 0, none⟩ = some (.int .i64 ka) ∧ w'.cell? ⟨b', off' + ka * 3 + 2, none⟩ = some (.int .i64 z0) ∧ w'.cell? ⟨w.heap.size + 1, 0, none⟩ = some (.int .i64 p.x) ∧ w'.cell? ⟨w.heap.size + 1, 1, none⟩ = some (.int .i64 p.y) ∧ w'.cell? ⟨g, 2, none⟩ = some (.int .i64 T.q.x) ∧ w'.cell? ⟨g, 3, none⟩ = some (.int .i64 T.q.y) ∧ w'.cell? ⟨g, 4, none⟩ = some (.int .i64 T.r.x) ∧ w'.cell? ⟨g, 5, none⟩ = some (.int .i64 T.r.y)) (go_keep) (first | (go_at_call 125; ((with_reducible refine (T0.out _).mono ?_); rintro e wT ⟨rfl, hb⟩); (first | (replace HX := hide (HX.out.to hb)) | (replace HX := hide (HX.out.drew.to hb)) | (replace HX := hide ((HX.out.alloc _ _).to hb)) | (replace HX := hide ((HX.out.alloc _ _).drew.to hb)) | (replace HX := hide ((HX.out.drew.alloc _ _).to hb))); have hkwT := keeps hb; have hawT := keepsB wT; have mmwT := own_nes5 HX.out; have hlwT := own_hd HX.out; have mowT := own_new HX.out hbl'; have dzwT := OA.out _ _ HX.out; (first | have hr2 := HX.out.r6 | have hr2 := HX.out.r5); (try simp only [World.size_alloc] at hr2); clear hb) | (go_at_call 70; ((with_reducible refine (P0.out _).mono ?_); rintro e wP ⟨rfl, hb⟩); (first | (replace HX := hide (HX.out.to hb)) | (replace HX := hide (HX.out.drew.to hb)) | (replace HX := hide ((HX.out.alloc _ _).to hb)) | (replace HX := hide ((HX.out.alloc _ _).drew.to hb)) | (replace HX := hide ((HX.out.drew.alloc _ _).to hb))); have hkwP := keeps hb; have hawP := keepsB wP; have mmwP := own_nes5 HX.out; have hlwP := own_hd HX.out; have mowP := own_new HX.out hbl'; have dzwP := OA.out _ _ HX.out; (first | have hr2 := HX.out.r6 | have hr2 := HX.out.r5); (try simp only [World.size_alloc] at hr2); clear hb))
    all_goals
      go_wp2_with fail
      go_meet
      have hz := HX.out.1.size
      have hn := HX.out.r1.2.2
      first
        | exact ⟨_, by (first | omega | (simp; omega)), rfl, hide (HX.out.alloc _ _)⟩
        | exact ⟨_, by (first | omega | (simp; omega)), rfl, hide (HX.out.put3 (by omega) (by simp only [List.mem_cons, List.not_mem_nil, or_false]; rintro x (rfl | rfl | rfl | rfl | rfl) <;> simp <;> omega) _ _ _)⟩
        | (trace_state; sorry)
  obtain ⟨b0, hb0, rfl, HX⟩ := hcut
  go_upto_region 4 with (fail)
  go_cut [11] (fun v wx => ∃ bk : Nat, b0 + 1 ≤ bk ∧ v = .pointer (some ⟨bk, 0, none⟩) ∧ Hid (Own w wx ([(bk, 113, #[.int .u64 (h1 : Int), .int .u64 (l1 : Int), .bool s1]), (b0, 113, #[.int .u64 (h0 : Int), .int .u64 (l0 : Int), .bool s0]), (g, 27, #[.int .i64 T.p.x, .int .i64 T.p.y, .int .i64 T.q.x, .int .i64 T.q.y, .int .i64 T.r.x, .int .i64 T.r.y]), (w.heap.size + 1 + 1 + 1, 62, #[.int .i64 ka, .int .i64 kb, .int .i64 kc, .int .i64 fk]), (w.heap.size + 1 + 1, 113, #[.int .u64 0, .int .u64 0, .bool false]), (w.heap.size + 1, 27, #[.int .i64 p.x, .int .i64 p.y]), (w.heap.size, 25, #[.slice (some ⟨b', off', none⟩) ss.length c1, .slice (some ⟨b, off, none⟩) fs.length c2])])))
  case first =>
    have hr := HX.out.r6
    have dz := OA.out _ _ HX.out
    have mm0 := own_nes6 HX.out
    have mo0 := own_new HX.out hbl'
    go_region_held3 (fun w' => w'.cell? ⟨w.heap.size, 0, none⟩ = some (.slice (some ⟨b', off', none⟩) ss.length c1) ∧ w'.cell? ⟨w.heap.size + 1 + 1 + 1, 1, none⟩ = some (.int .i64 kb) ∧ w'.cell? ⟨b', off' + kb * 3 + 2, none⟩ = some (.int .i64 z1) ∧ w'.cell? ⟨g, 0, none⟩ = some (.int .i64 T.p.x) ∧ w'.cell? ⟨g, 1, none⟩ = some (.int .i64 T.p.y) ∧ w'.cell? ⟨w.heap.size + 1, 0, none⟩ = some (.int .i64 p.x) ∧ w'.cell? ⟨w.heap.size + 1, 1, none⟩ = some (.int .i64 p.y) ∧ w'.cell? ⟨g, 4, none⟩ = some (.int .i64 T.r.x) ∧ w'.cell? ⟨g, 5, none⟩ = some (.int .i64 T.r.y)) (go_keep) (first | (go_at_call 125; ((with_reducible refine (T1.out _).mono ?_); rintro e wT ⟨rfl, hb⟩); (first | (replace HX := hide (HX.out.to hb)) | (replace HX := hide (HX.out.drew.to hb)) | (replace HX := hide ((HX.out.alloc _ _).to hb)) | (replace HX := hide ((HX.out.alloc _ _).drew.to hb)) | (replace HX := hide ((HX.out.drew.alloc _ _).to hb))); have hkwT := keeps hb; have hawT := keepsB wT; have mmwT := own_nes6 HX.out; have hlwT := own_hd HX.out; have mowT := own_new HX.out hbl'; have dzwT := OA.out _ _ HX.out; (first | have hr2 := HX.out.r7 | have hr2 := HX.out.r6); (try simp only [World.size_alloc] at hr2); clear hb) | (go_at_call 70; ((with_reducible refine (P1.out _).mono ?_); rintro e wP ⟨rfl, hb⟩); (first | (replace HX := hide (HX.out.to hb)) | (replace HX := hide (HX.out.drew.to hb)) | (replace HX := hide ((HX.out.alloc _ _).to hb)) | (replace HX := hide ((HX.out.alloc _ _).drew.to hb)) | (replace HX := hide ((HX.out.drew.alloc _ _).to hb))); have hkwP := keeps hb; have hawP := keepsB wP; have mmwP := own_nes6 HX.out; have hlwP := own_hd HX.out; have mowP := own_new HX.out hbl'; have dzwP := OA.out _ _ HX.out; (first | have hr2 := HX.out.r7 | have hr2 := HX.out.r6); (try simp only [World.size_alloc] at hr2); clear hb))
    all_goals
      go_wp2_with fail
      go_meet
      have hz := HX.out.1.size
      have hn := HX.out.r1.2.2
      first
        | exact ⟨_, by (first | omega | (simp; omega)), rfl, hide (HX.out.alloc _ _)⟩
        | exact ⟨_, by (first | omega | (simp; omega)), rfl, hide (HX.out.put3 (by omega) (by simp only [List.mem_cons, List.not_mem_nil, or_false]; rintro x (rfl | rfl | rfl | rfl | rfl | rfl) <;> simp <;> omega) _ _ _)⟩
        | (trace_state; sorry)
  obtain ⟨b1, hb1, rfl, HX⟩ := hcut
  go_upto_region 5 with (fail)
  go_cut [12] (fun v wx => ∃ bk : Nat, b1 + 1 ≤ bk ∧ v = .pointer (some ⟨bk, 0, none⟩) ∧ Hid (Own w wx ([(bk, 113, #[.int .u64 (h2 : Int), .int .u64 (l2 : Int), .bool s2]), (b1, 113, #[.int .u64 (h1 : Int), .int .u64 (l1 : Int), .bool s1]), (b0, 113, #[.int .u64 (h0 : Int), .int .u64 (l0 : Int), .bool s0]), (g, 27, #[.int .i64 T.p.x, .int .i64 T.p.y, .int .i64 T.q.x, .int .i64 T.q.y, .int .i64 T.r.x, .int .i64 T.r.y]), (w.heap.size + 1 + 1 + 1, 62, #[.int .i64 ka, .int .i64 kb, .int .i64 kc, .int .i64 fk]), (w.heap.size + 1 + 1, 113, #[.int .u64 0, .int .u64 0, .bool false]), (w.heap.size + 1, 27, #[.int .i64 p.x, .int .i64 p.y]), (w.heap.size, 25, #[.slice (some ⟨b', off', none⟩) ss.length c1, .slice (some ⟨b, off, none⟩) fs.length c2])])))
  case first =>
    have hr := HX.out.r7
    have dz := OA.out _ _ HX.out
    have mm0 := own_nes7 HX.out
    have mo0 := own_new HX.out hbl'
    go_region_held3 (fun w' => w'.cell? ⟨w.heap.size, 0, none⟩ = some (.slice (some ⟨b', off', none⟩) ss.length c1) ∧ w'.cell? ⟨w.heap.size + 1 + 1 + 1, 2, none⟩ = some (.int .i64 kc) ∧ w'.cell? ⟨b', off' + kc * 3 + 2, none⟩ = some (.int .i64 z2) ∧ w'.cell? ⟨g, 0, none⟩ = some (.int .i64 T.p.x) ∧ w'.cell? ⟨g, 1, none⟩ = some (.int .i64 T.p.y) ∧ w'.cell? ⟨g, 2, none⟩ = some (.int .i64 T.q.x) ∧ w'.cell? ⟨g, 3, none⟩ = some (.int .i64 T.q.y) ∧ w'.cell? ⟨w.heap.size + 1, 0, none⟩ = some (.int .i64 p.x) ∧ w'.cell? ⟨w.heap.size + 1, 1, none⟩ = some (.int .i64 p.y)) (go_keep) (first | (go_at_call 125; ((with_reducible refine (T2.out _).mono ?_); rintro e wT ⟨rfl, hb⟩); (first | (replace HX := hide (HX.out.to hb)) | (replace HX := hide (HX.out.drew.to hb)) | (replace HX := hide ((HX.out.alloc _ _).to hb)) | (replace HX := hide ((HX.out.alloc _ _).drew.to hb)) | (replace HX := hide ((HX.out.drew.alloc _ _).to hb))); have hkwT := keeps hb; have hawT := keepsB wT; have mmwT := own_nes7 HX.out; have hlwT := own_hd HX.out; have mowT := own_new HX.out hbl'; have dzwT := OA.out _ _ HX.out; (first | have hr2 := HX.out.r8 | have hr2 := HX.out.r7); (try simp only [World.size_alloc] at hr2); clear hb) | (go_at_call 70; ((with_reducible refine (P2.out _).mono ?_); rintro e wP ⟨rfl, hb⟩); (first | (replace HX := hide (HX.out.to hb)) | (replace HX := hide (HX.out.drew.to hb)) | (replace HX := hide ((HX.out.alloc _ _).to hb)) | (replace HX := hide ((HX.out.alloc _ _).drew.to hb)) | (replace HX := hide ((HX.out.drew.alloc _ _).to hb))); have hkwP := keeps hb; have hawP := keepsB wP; have mmwP := own_nes7 HX.out; have hlwP := own_hd HX.out; have mowP := own_new HX.out hbl'; have dzwP := OA.out _ _ HX.out; (first | have hr2 := HX.out.r8 | have hr2 := HX.out.r7); (try simp only [World.size_alloc] at hr2); clear hb))
    all_goals
      go_wp2_with fail
      go_meet
      have hz := HX.out.1.size
      have hn := HX.out.r1.2.2
      first
        | exact ⟨_, by (first | omega | (simp; omega)), rfl, hide (HX.out.alloc _ _)⟩
        | exact ⟨_, by (first | omega | (simp; omega)), rfl, hide (HX.out.put3 (by omega) (by simp only [List.mem_cons, List.not_mem_nil, or_false]; rintro x (rfl | rfl | rfl | rfl | rfl | rfl | rfl) <;> simp <;> omega) _ _ _)⟩
        | (trace_state; sorry)
  obtain ⟨b2, hb2, rfl, HX⟩ := hcut
  have hr := HX.out.r8
  have NE := ownw_ne HX.out
  have C1 := fun x : OwnW w [(b2, 113, #[.int .u64 (h2 : Int), .int .u64 (l2 : Int), .bool s2]), (b1, 113, #[.int .u64 (h1 : Int), .int .u64 (l1 : Int), .bool s1]), (b0, 113, #[.int .u64 (h0 : Int), .int .u64 (l0 : Int), .bool s0]), (g, 27, #[.int .i64 T.p.x, .int .i64 T.p.y, .int .i64 T.q.x, .int .i64 T.q.y, .int .i64 T.r.x, .int .i64 T.r.y]), (w.heap.size + 1 + 1 + 1, 62, #[.int .i64 ka, .int .i64 kb, .int .i64 kc, .int .i64 fk]), (w.heap.size + 1 + 1, 113, #[.int .u64 0, .int .u64 0, .bool false]), (w.heap.size + 1, 27, #[.int .i64 p.x, .int .i64 p.y]), (w.heap.size, 25, #[.slice (some ⟨b', off', none⟩) ss.length c1, .slice (some ⟨b, off, none⟩) fs.length c2])] => x.own.r8
  have TWX := hide (fun (x : OwnW w [(b2, 113, #[.int .u64 (h2 : Int), .int .u64 (l2 : Int), .bool s2]), (b1, 113, #[.int .u64 (h1 : Int), .int .u64 (l1 : Int), .bool s1]), (b0, 113, #[.int .u64 (h0 : Int), .int .u64 (l0 : Int), .bool s0]), (g, 27, #[.int .i64 T.p.x, .int .i64 T.p.y, .int .i64 T.q.x, .int .i64 T.q.y, .int .i64 T.r.x, .int .i64 T.r.y]), (w.heap.size + 1 + 1 + 1, 62, #[.int .i64 ka, .int .i64 kb, .int .i64 kc, .int .i64 fk]), (w.heap.size + 1 + 1, 113, #[.int .u64 0, .int .u64 0, .bool false]), (w.heap.size + 1, 27, #[.int .i64 p.x, .int .i64 p.y]), (w.heap.size, 25, #[.slice (some ⟨b', off', none⟩) ss.length c1, .slice (some ⟨b, off, none⟩) fs.length c2])]) => TW.out x.W (HM.out.below x.own.1))
  go_upto_region 6 with (fail)
  refine wp_region_own_tail (w := w) 8 (by kernel_rfl) (by kernel_rfl) HX.out ?_
  simp only [List.take_succ_cons, List.take_zero, List.drop_succ_cons, List.drop_zero]
  repeat (go_big_quiet_step ((rename_i y; first | with_reducible exact own_call (S1.out _) | with_reducible exact own_call (S2.out _) | with_reducible exact own_call (TWX.out y))))
  refine wpQuiet_nil ?_
  rintro W3 ⟨⟨W3, HO⟩, rfl⟩
  have hr := HO.r8
  have XB := hide HO.1
  clear NE C1 HX HO
  go_wp2
  refine bodyPost_ret (v := .tuple #[.agg #[.int .u64 (h4 : Int), .int .u64 (l4 : Int), .bool s4], .int .i64 D]) (by simp [results, Tryz.results116, hr, go_sem]) rfl ⟨rfl, ?_⟩
  have HB := XB.out
  have hz := HB.size
  go_grown
set_option maxRecDepth 100000 in
set_option maxHeartbeats 4000000 in
theorem mrlevel_any (m : Msh) (a : MshA) (i : Nat) (p : Pnt) (w : World) (hm : MshSl w m a) (hi : i < m.fs.length) (hk : OkF m.ss m.fs[i]) (hp : p.in) (ho : onB (triA m.ss m.fs[i]) p = true) :
    Calls Tryz.prog 65 #[m.val a, .int .i64 (i : Int), p.val] w (RetW (lvS m.ss m.fs[i] p).val w) := by
  have EX := hide (fun W h => mrexact_any m a i p W h hi hk hp)
  have HM := hide hm
  have OF := onF_of hk ho
  have nb := OF.num
  have db := OF.d
  have de := trn_bd2 OF.i.1 OF.i.2.1 OF.i.2.2
  obtain ⟨⟨l1, l2⟩, ⟨l3, l4⟩, -⟩ := OF.lv
  have ES : Hid ((lvS m.ss m.fs[i] p).val = .agg #[.int .i64 (dn (numA m.ss m.fs[i] p) (denA m.ss m.fs[i])), .int .i64 (up (numA m.ss m.fs[i] p) (denA m.ss m.fs[i]))]) := hide rfl
  have l1 : -4194304 ≤ dn (numA m.ss m.fs[i] p) (denA m.ss m.fs[i]) := l1
  have l2 : dn (numA m.ss m.fs[i] p) (denA m.ss m.fs[i]) ≤ 4194304 := l2
  have l3 : -4194304 ≤ up (numA m.ss m.fs[i] p) (denA m.ss m.fs[i]) := l3
  have l4 : up (numA m.ss m.fs[i] p) (denA m.ss m.fs[i]) ≤ 4194304 := l4
  have de : denA m.ss m.fs[i] ≤ 2251799813685248 := de.2
  rw [ES.out]
  clear ES hk ho hp hm OF
  unfold RetW at EX
  obtain ⟨A1, c1, A2, c2⟩ := a
  generalize numA m.ss m.fs[i] p = N at *
  generalize denA m.ss m.fs[i] = D at *
  have OI := hide (fun W => nzofint D W (by omega))
  have DN := hide (fun W => nzdown N D W (by omega) (by omega) (by omega))
  have UP := hide (fun W => nzup N D W (by omega) (by omega) (by omega))
  rw [fdv_dn db] at DN
  rw [cdv_up db] at UP
  have I1 := hide (fun W => nzisint (dn N D) W (decide_eq_true (by omega)))
  have I2 := hide (fun W => nzisint (up N D) W (decide_eq_true (by omega)))
  generalize dn N D = lo at *
  generalize up N D = hi at *
  obtain ⟨h0, l0, s0, e0⟩ := nz_some N
  obtain ⟨h1, l1', s1, e1⟩ := nz_some D
  obtain ⟨h2, l2', s2, e2⟩ := nz_some lo
  obtain ⟨h3, l3', s3, e3⟩ := nz_some hi
  simp only [e0] at EX DN UP
  simp only [e1] at OI DN UP
  simp only [e2] at DN I1
  simp only [e3] at UP I2
  clear e0 e1 e2 e3 l1 l2 l3 l4 nb db de
  have X := (((Own.start w).alloc #[.slice A1 m.ss.length c1, .slice A2 m.fs.length c2] 25).alloc #[.int .i64 p.x, .int .i64 p.y] 27).alloc #[.int .i64 0, .int .i64 0] 31
  simp only [World.size_alloc] at X
  have hr := X.r3
  go_enter Tryz.func65, Tryz.ntmps65
  go_wp2_with fail
  refine (EX.out _ (HM.out.below X.1)).mono ?_
  rintro e w1 ⟨rfl, hb⟩
  have hw1 : w.heap.size + 1 + 1 < w1.heap.size := (X.to hb).r3.1.2.2
  replace X := (X.to hb).alloc #[.int .u64 (h0 : Int), .int .u64 (l0 : Int), .bool s0] 113
  clear hr hb
  have hr := X.r4
  have HX := hide X
  have NE := ownw_ne X
  have C1 := ownw_r4 X
  clear X
  go_upto_region 2 with (fail)
  refine wp_region_own (w := w) (by kernel_rfl) (by kernel_rfl) HX.out ?_
  repeat (go_big_quiet_step ((rename_i y; first | with_reducible exact own_call (OI.out _) | with_reducible exact own_call (DN.out _) | with_reducible exact own_call (I1.out _))))
  refine wpQuiet_nil ?_
  rintro W2 ⟨⟨W2, HO⟩, rfl⟩
  have hr := HO.r4
  replace HX := hide HO
  clear HO
  go_upto_region 3 with (fail)
  refine wp_region_own (w := w) (by kernel_rfl) (by kernel_rfl) HX.out ?_
  repeat (go_big_quiet_step ((rename_i y; first | with_reducible exact own_call (OI.out _) | with_reducible exact own_call (UP.out _) | with_reducible exact own_call (I2.out _))))
  refine wpQuiet_nil ?_
  rintro W3 ⟨⟨W3, HO⟩, rfl⟩
  have hr := HO.r4
  have XB := hide HO.1
  clear HO HX NE C1
  go_wp2
  refine bodyPost_ret (v := .agg #[.int .i64 lo, .int .i64 hi]) (by simp [results, Tryz.results65, hr, go_sem]) rfl ⟨rfl, ?_⟩
  exact below_set (below_set XB.out (by omega) _) (by omega) _
end Go.Proofs.YtbmocghfpcfmhaaGreatDoor
