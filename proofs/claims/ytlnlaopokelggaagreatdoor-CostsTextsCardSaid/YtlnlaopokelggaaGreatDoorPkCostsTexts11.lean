/- The program's Check of a surface: whether it finds something; nothing that was there is turned. -/
import Derived.Test.YtlnlaopokelggaaGreatDoorPkCostsTexts10
import Derived.Test.YtlnlaopokelggaaGreatDoorPkCostsTexts2
import Derived.Deep.RegionWith
namespace Go.Proofs.YtlnlaopokelggaaGreatDoor
open Go Go.RowKit

theorem int_infoM : (Tryz.prog.info? 3).map (fun i => (i.zero, i.size, i.bytes)) = some (some (.int .i64 0), 1, 8) := by kernel_rfl
theorem bool_infoM : (Tryz.prog.info? 4).map (fun i => (i.zero, i.size, i.bytes)) = some (some (.bool false), 1, 1) := by kernel_rfl
def klP (p : Pnt) : Lit := .string (keyBytes [.int .i64 p.x, .int .i64 p.y])
theorem klP_is (p : Pnt) : WideAt.IsKeyLit (klP p) := by unfold klP; trivial
/-- the points of the first right spots -/
def keysP (l : List Spt) (k : Nat) (t : Lit) : Prop := ∃ i, i < k ∧ okS (spA l i) = true ∧ t = klP (spA l i).pt
theorem in_i64 {p : Pnt} (h : p.in) : i64 p.x ∧ i64 p.y := by
  obtain ⟨⟨a, b⟩, c, d⟩ := h
  unfold i64; omega
theorem klP_key {p : Pnt} (h : p.in) : keyOf Tryz.prog 55 p.val = some (klP p) := pt_key p (in_i64 h).1 (in_i64 h).2
theorem klP_inj {p q : Pnt} (hp : p.in) (hq : q.in) (h : klP p = klP q) : p = q := by
  have h1 := klP_key hp
  have h2 := klP_key hq
  rw [h] at h1
  have e : p.val = q.val := pt_keyed.inj h1 h2
  obtain ⟨a, b⟩ := p
  obtain ⟨c, d⟩ := q
  simp at e
  rw [e.1, e.2]
theorem keysP_no {l : List Spt} {k : Nat} (h : okS (spA l k) = false) : keysP l (k + 1) = keysP l k := by
  funext t
  apply propext
  constructor
  · rintro ⟨i, hi, h1, h2⟩
    by_cases e : i = k
    · subst e; rw [h] at h1; cases h1
    · exact ⟨i, by omega, h1, h2⟩
  · rintro ⟨i, hi, h1, h2⟩
    exact ⟨i, by omega, h1, h2⟩
theorem keysP_yes {l : List Spt} {k : Nat} (h : okS (spA l k) = true) : keysP l (k + 1) = fun t => t = klP (spA l k).pt ∨ keysP l k t := by
  funext t
  apply propext
  constructor
  · rintro ⟨i, hi, h1, h2⟩
    by_cases e : i = k
    · subst e; exact .inl h2
    · exact .inr ⟨i, by omega, h1, h2⟩
  · rintro (rfl | ⟨i, hi, h1, h2⟩)
    · exact ⟨k, by omega, h, rfl⟩
    · exact ⟨i, by omega, h1, h2⟩
theorem keysP_has {l : List Spt} {k : Nat} (h : okS (spA l k) = true) : keysP l k (klP (spA l k).pt) ↔ ((List.range k).any fun j => okS (spA l j) && decide ((spA l j).pt = (spA l k).pt)) = true := by
  simp only [List.any_eq_true, List.mem_range, Bool.and_eq_true, decide_eq_true_eq]
  constructor
  · rintro ⟨i, hi, h1, h2⟩
    exact ⟨i, hi, h1, (klP_inj (okS_in h) (okS_in h1) h2).symm⟩
  · rintro ⟨i, hi, h1, h2⟩
    exact ⟨i, hi, h1, by rw [h2]⟩
theorem farR_set (l : List Spt) {k : Nat} : (farR l k).setIfInBounds k (.bool (!okS (spA l k))) = farR l (k + 1) := by
  unfold farR
  rw [mkRow_set]
  refine mkRow_congr (fun i _ => ?_)
  unfold farC
  by_cases e : i = k
  · subst e; simp
  · rw [if_neg e]
    congr 1
    by_cases h : i < k
    · rw [if_pos h, if_pos (by omega)]
    · rw [if_neg h, if_neg (by omega)]
theorem fin_len {p : Nat → Bool} (n : Nat) : ((List.range n).filter p).length ≤ n := by
  have := List.length_filter_le p (List.range n)
  simpa using this
/-- the rows in the first loop -/
def Rows1 (l : List Spt) (k : Nat) (L : Nat → List Nat) : Prop := L 1 = fin1 l k ∧ L 2 = fin2 l k ∧ ∀ j, j ≠ 1 → j ≠ 2 → L j = []
theorem Own.front2 {w W : World} {x y z : Nat × TypeId × Array Value} {L} (h : Own w W (x :: y :: z :: L)) : Own w W (z :: x :: y :: L) :=
  ⟨h.1, fun u hu => h.2 u (by simp only [List.mem_cons] at hu ⊢; rcases hu with h | h | h | h <;> simp [h])⟩
theorem Own.back2 {w W : World} {x y z : Nat × TypeId × Array Value} {L} (h : Own w W (z :: x :: y :: L)) : Own w W (x :: y :: z :: L) :=
  ⟨h.1, fun u hu => h.2 u (by simp only [List.mem_cons] at hu ⊢; rcases hu with h | h | h | h <;> simp [h])⟩
set_option maxRecDepth 100000 in
set_option maxHeartbeats 8000000 in
theorem mscheck_any (ss : List Spt) (fs : List Fce) (A1 A2 : Option Addr) (c1 c2 : Nat) (w : World) (hm : MshSl w ⟨ss, fs⟩ ⟨A1, c1, A2, c2⟩) (h1 : ss.length ≤ 2000) (h2 : fs.length ≤ 4000) (ht : Lib.TabIs Tryz.prog w "internal/strconv.uint64pow10" .u64 Lib.pow10Tab) :
    Calls Tryz.prog 62 #[.agg #[.slice A1 ss.length c1, .slice A2 fs.length c2]] w fun e w' => (∃ A N c, e = .returned (.tuple #[.slice A N c, .int .i64 0]) ∧ (N = 0 ↔ vM ⟨ss, fs⟩ = true)) ∧ Below w.heap.size w w' := by
  have X := (Own.start w).alloc #[.slice A1 ss.length c1, .slice A2 fs.length c2] 52
  have hr := X.r1
  have HM := hide hm
  have HT := hide ht
  have SM : Hid (∀ W, Calls Tryz.prog 85 #[.agg #[.slice A1 ss.length c1, .slice A2 fs.length c2]] W (RetW (.bool true) W)) := hide (fun W => by
    have := mssmall_any ⟨ss, fs⟩ ⟨A1, c1, A2, c2⟩ W
    rw [show smB ⟨ss, fs⟩ = true by simp [smB, h1, h2]] at this
    exact this)
  unfold RetW at SM
  have MK : ∀ W : World, (Instr.makeSlice 137 (.int .i64 (ss.length : Int)) (.int .i64 (ss.length : Int))).run Tryz.prog W = .ok (.slice (some ⟨W.heap.size, 0, none⟩) ss.length ss.length) (W.alloc (.cells (farR ss 0) 4)) := fun W => by
    obtain ⟨i1, hi1, hy0, hy1, hy2⟩ := info_parts bool_infoM
    have := run_make_rowN (P := Tryz.prog) 137 4 i1 (.bool false) Tryz.underlying137 hi1 hy0 .i64 .i64 ss.length ss.length (by omega) (by rw [hy2]; omega) (by omega) W
    rw [hy1, Nat.mul_one] at this
    rw [show farR ss 0 = madeCells (Value.bool false).cells ss.length from (mkRow_made ss.length (.bool false)).symm]
    exact this
  clear hm ht
  have hmm := @run_makeMap Tryz.prog
  go_enter Tryz.func62, Tryz.ntmps62
  go_wp2_with fail
  refine (SM.out _).mono ?_
  rintro e w1 ⟨rfl, hb⟩
  replace X := X.to hb
  have hb0 := hb.size
  clear hr hb
  have hr := X.r1
  have X1 := ((X.alloc #[.slice none 0 0, .slice none 0 0, .slice none 0 0, .slice none 0 0, .slice none 0 0, .slice none 0 0, .slice none 0 0] 136).alloc (farR ss 0) 4).alloc #[.slice (some ⟨w1.heap.size + 1, 0, none⟩) ss.length ss.length] 137
  simp only [World.size_alloc] at X1
  have X2 := hide (X1.to ((Below.refl _ _).alloc (Nat.le_refl _) (.map #[] 0)))
  have M0 : Hid (MapB ((((w1.alloc (.cells #[.slice none 0 0, .slice none 0 0, .slice none 0 0, .slice none 0 0, .slice none 0 0, .slice none 0 0, .slice none 0 0] 136)).alloc (.cells (farR ss 0) 4)).alloc (.cells #[.slice (some ⟨w1.heap.size + 1, 0, none⟩) ss.length ss.length] 137)).alloc (.map #[] 0)) 55 (w1.heap.size + 1 + 1 + 1) 0 (.map [])) := hide (by
    have := World.ownsMap_made (H := Unit) (((w1.alloc (.cells #[.slice none 0 0, .slice none 0 0, .slice none 0 0, .slice none 0 0, .slice none 0 0, .slice none 0 0, .slice none 0 0] 136)).alloc (.cells (farR ss 0) 4)).alloc (.cells #[.slice (some ⟨w1.heap.size + 1, 0, none⟩) ss.length ss.length] 137)) Tryz.prog 55 (plainElem Tryz.prog 4)
    simp only [World.size_alloc] at this
    exact this)
  have b1 : w.heap.size < w1.heap.size := hr.2.2
  clear X X1 hb0
  go_upto_region 6 with (fail)
  generalize (((w1.alloc (.cells #[.slice none 0 0, .slice none 0 0, .slice none 0 0, .slice none 0 0, .slice none 0 0, .slice none 0 0, .slice none 0 0] 136)).alloc (.cells (farR ss 0) 4)).alloc (.cells #[.slice (some ⟨w1.heap.size + 1, 0, none⟩) ss.length ss.length] 137)).alloc (.map #[] 0) = W at *
  clear hr
  have hr := X2.out.r4
  have n1 : ¬ (w1.heap.size = w1.heap.size + 1 + 1) := by omega
  have n2 : ¬ (w1.heap.size + 1 + 1 = w1.heap.size) := by omega
  go_wp2
  generalize w1.heap.size = bF at *
  have Y0 : Hid (Own w W [(bF + 1, 4, farR ss 0), (bF, 136, cF fun _ => .slice none 0 0), (bF + 1 + 1, 137, #[.slice (some ⟨bF + 1, 0, none⟩) ss.length ss.length]), (w.heap.size, 52, #[.slice A1 ss.length c1, .slice A2 fs.length c2])]) :=
    hide ⟨X2.out.1, fun x hx => X2.out.2 x (by simp only [List.mem_cons, List.not_mem_nil, or_false] at hx ⊢; rcases hx with rfl | rfl | rfl | rfl <;> simp [cF])⟩
  have HI := hide int_infoM
  obtain ⟨i0, hi0, hz0, hz1, hz2⟩ := info_parts int_infoM
  have RG := hide (fun s W => msright_any s W)
  have PT := hide (fun W i h h0 h1 => mspoint_any ⟨ss, fs⟩ ⟨A1, c1, A2, c2⟩ i W h h0 h1)
  unfold RetW at RG PT
  clear hr X2
  go_loopw [33] (fun v33 wr => ∃ (k : Nat) (f : Nat → Value) (L : Nat → List Nat) (D : DataW Unit), k ≤ ss.length ∧ v33 = .int .i64 k ∧
    Hid (Own w wr [(bF + 1, 4, farR ss k), (bF, 136, cF f), (bF + 1 + 1, 137, #[.slice (some ⟨bF + 1, 0, none⟩) ss.length ss.length]), (w.heap.size, 52, #[.slice A1 ss.length c1, .slice A2 fs.length c2])]) ∧
    Hid (Six wr w.heap.size f L) ∧ Hid (Rows1 ss k L) ∧ Hid (MapB wr 55 (bF + 1 + 1 + 1) k D) ∧ Hid (Says D (keysP ss k))) (fun v33 _ => ss.length - (intOf v33).toNat)
  case atStart => exact ⟨0, _, _, _, Nat.zero_le _, rfl, Y0, hide (Six.nil _ _), hide ⟨rfl, rfl, fun _ _ _ => rfl⟩, M0, hide (by have e : keysP ss 0 = fun _ => False := (by funext t; apply propext; simp [keysP]); rw [e]; exact Says.empty)⟩
  case round =>
    obtain ⟨k, f, L, D, hk, rfl, HO, HS, HL, HMp, HD⟩ := hrel
    by_cases hlt : k < ss.length
    -- R1 begin
    · obtain ⟨b, off, e, hbl, hat⟩ := HM.out.1.2 (by show 0 < ss.length; omega)
      obtain rfl : A1 = some ⟨b, off, none⟩ := e
      obtain ⟨c0, c1', c2'⟩ := hat k hlt
      replace c0 := (HO.out.1.cell (p := ⟨b, _, none⟩) hbl).trans c0
      replace c1' := (HO.out.1.cell (p := ⟨b, _, none⟩) hbl).trans c1'
      replace c2' := (HO.out.1.cell (p := ⟨b, _, none⟩) hbl).trans c2'
      have eS : Hid (spA ss (k : Int) = ss[k]) := hide (by simp [spA, hlt])
      have X := HO.out.alloc #[.int .i64 ss[k].x, .int .i64 ss[k].y, .int .i64 ss[k].z] 46
      have nb : b < wr.heap.size := Nat.lt_of_lt_of_le hbl HO.out.1.size
      generalize ss[k] = s at *
      clear hat
      have hr0 := HO.out.r4
      go_upto_region 9 with (fail)
      have HS1 := hide (HS.out.to ((Below.refl _ _).alloc (Nat.le_refl _) (.cells #[.int .i64 s.x, .int .i64 s.y, .int .i64 s.z] 46)))
      have HM1 := hide (HMp.out.to ((Below.refl _ _).alloc (Nat.le_refl _) (.cells #[.int .i64 s.x, .int .i64 s.y, .int .i64 s.z] 46)))
      have nw : wr.heap.size = wr.heap.size := rfl
      generalize wr.alloc (.cells #[.int .i64 s.x, .int .i64 s.y, .int .i64 s.z] 46) = W1 at *
      have hr0' : bF + 1 + 1 < wr.heap.size := hr0.2.2.1.2.2
      clear hr0 c0 c1' c2' HO HS HMp
      have hr := X.r5
      have HX := hide X
      clear X
      have fk : (farR ss k)[k]? = some (.bool false) := (mkRow_at _ _ hlt).trans (by simp [farC])
      have g0 : (0 : Int) ≤ (k : Int) := by omega
      have g1 : (k : Int) < (ss.length : Int) := by omega
      have RGs := hide (fun W => RG.out s W)
      have FS : Hid ((farR ss k).setIfInBounds k (.bool (!okS s)) = farR ss (k + 1)) := hide (by rw [← eS.out]; exact farR_set ss)
      have nbs := hr0'
      generalize wr.heap.size = bs at *
      have NS : Hid (∀ x ∈ [(bs, 46, #[.int .i64 s.x, .int .i64 s.y, .int .i64 s.z]), (bF, 136, cF f), (bF + 1 + 1, 137, #[.slice (some ⟨bF + 1, 0, none⟩) ss.length ss.length]), (w.heap.size, 52, #[.slice (some ⟨b, off, none⟩) ss.length c1, .slice A2 fs.length c2])], (x : Nat × TypeId × Array Value).1 ≠ bF + 1) := hide (fun x hx => by
        simp only [List.mem_cons, List.not_mem_nil, or_false] at hx
        rcases hx with rfl | rfl | rfl | rfl <;> simp <;> omega)
      go_cut [] from 38 to 43 (fun wx => Hid (Own w wx [(bs, 46, #[.int .i64 s.x, .int .i64 s.y, .int .i64 s.z]), (bF + 1, 4, farR ss (k + 1)), (bF, 136, cF f), (bF + 1 + 1, 137, #[.slice (some ⟨bF + 1, 0, none⟩) ss.length ss.length]), (w.heap.size, 52, #[.slice (some ⟨b, off, none⟩) ss.length c1, .slice A2 fs.length c2])]) ∧ Hid (Six wx w.heap.size f L) ∧ Hid (MapB wx 55 (bF + 1 + 1 + 1) k D))
      case first =>
        go_region_with (go_at_call 86; refine (RGs.out _).mono ?_; rintro e w2 ⟨rfl, hb⟩; have HX2 := hide (HX.out.drew.to hb); have hr2 := HX2.out.r5)
        all_goals
          go_wp2_with fail
          go_meet
          have hb' : Below W1.heap.size W1 w2 := ((Below.refl _ W1).drew).trans hb
          exact ⟨hide (FS.out ▸ (HX2.out.swap.set0 (by omega) NS.out k _).swap), hide ((HS1.out.to hb').set (HX2.out.2 (bF + 1, 4, farR ss k) (by simp)) (show (3 : Nat) ≠ 4 by decide) k _), hide ((HM1.out.to hb').setCell (by show bF + 1 + 1 + 1 ≠ bF + 1; omega) _)⟩
      case rest =>
        obtain ⟨HO, HS, HMp⟩ := hcut
        clear HX HS1 HM1 hr fk
        have NF : Hid (∀ x ∈ [(bF + 1, 4, farR ss (k + 1)), (bF + 1 + 1, 137, #[.slice (some ⟨bF + 1, 0, none⟩) ss.length ss.length]), (w.heap.size, 52, #[.slice (some ⟨b, off, none⟩) ss.length c1, .slice A2 fs.length c2])], (x : Nat × TypeId × Array Value).1 ≠ bF) := hide (fun x hx => by
          simp only [List.mem_cons, List.not_mem_nil, or_false] at hx
          rcases hx with rfl | rfl | rfl <;> simp <;> omega)
        have fk : (farR ss (k + 1))[k]? = some (.bool (!okS s)) := (mkRow_at _ _ hlt).trans (by simp [farC, eS.out])
        have hr := HO.out.r5
        have cf1 : (cF f)[1]? = some (f 1) := rfl
        have cf2 : (cF f)[2]? = some (f 2) := rfl
        have lf1 := HL.out.1
        have lf2 := HL.out.2.1
        have l1 : Hid ((L 1).length ≤ 2000) := hide (by rw [lf1]; exact Nat.le_trans (fin_len k) (by omega))
        have l2 : Hid ((L 2).length ≤ 2000) := hide (by rw [lf2]; exact Nat.le_trans (fin_len k) (by omega))
        by_cases hok : okS s = true
        · have fk' := fk
          rw [hok] at fk'
          have HK := hide (keysP_yes (l := ss) (k := k) (by rw [eS.out]; exact hok))
          have HH := hide (keysP_has (l := ss) (k := k) (by rw [eS.out]; exact hok))
          rw [eS.out] at HK HH
          have HSY := hide (HD.out.put (klP_is s.pt))
          rw [← HK.out] at HSY
          have KY : Hid (keyOf Tryz.prog 55 (.agg #[.int .i64 s.x, .int .i64 s.y]) = some (klP s.pt)) := hide (klP_key (okS_in hok))
          have PTs : Hid (∀ W, MshSl W ⟨ss, fs⟩ ⟨some ⟨b, off, none⟩, c1, A2, c2⟩ → Calls Tryz.prog 87 #[.agg #[.slice (some ⟨b, off, none⟩) ss.length c1, .slice A2 fs.length c2], .int .i64 k] W fun e w' => e = .returned (.agg #[.int .i64 s.x, .int .i64 s.y]) ∧ Below W.heap.size W w') := hide (fun W h => by
            have := PT.out W k h g0 g1
            rw [show spA (Msh.ss ⟨ss, fs⟩) (k : Int) = s from eS.out] at this
            exact this)
          have HMs := hide (HM.out.below HO.out.1)
          have HO1 := hide HO.out.tail
          have HLYt : Hid (keysP ss k (klP s.pt) → fin2 ss (k + 1) = fin2 ss k ++ [k]) := hide (fun hh => by
            unfold fin2; rw [filt_s, if_pos (by rw [eS.out, hok, Bool.true_and]; exact HH.out.1 hh)])
          have HLYf : Hid (¬ keysP ss k (klP s.pt) → fin2 ss (k + 1) = fin2 ss k) := hide (fun hh => by
            unfold fin2; rw [filt_s, if_neg (by rw [eS.out, hok, Bool.true_and]; exact fun q => hh (HH.out.2 q)), List.append_nil])
          have HL1Y : Hid (fin1 ss (k + 1) = fin1 ss k) := hide (by unfold fin1; rw [filt_s, if_neg (by simp [eS.out, hok]), List.append_nil])
          clear fk RGs RG HK HH
          simp only [Bool.not_true] at fk'
          go_wp2_with fail
          refine (PTs.out _ HMs.out).mono ?_
          rintro e w3 ⟨rfl, hb⟩
          have HS3 := hide ((HS.out.to hb).to ((Below.refl _ w3).alloc (Nat.le_refl _) (.cells #[.int .i64 s.x, .int .i64 s.y] 55)))
          have HM3 := hide ((HMp.out.to hb).to ((Below.refl _ w3).alloc (Nat.le_refl _) (.cells #[.int .i64 s.x, .int .i64 s.y] 55)))
          have HX3 := hide ((HO1.out.to hb).alloc #[.int .i64 s.x, .int .i64 s.y] 55)
          have nb3 : bF + 1 + 1 < w3.heap.size := (HO1.out.to hb).r3.2.2.2.2
          clear hb hr HO HS HMp HO1
          go_upto_region 13 with (fail)
          generalize w3.alloc (.cells #[.int .i64 s.x, .int .i64 s.y] 55) = W3 at *
          generalize w3.heap.size = b3 at *
          have hr := HX3.out.r5
          obtain ⟨c, hlk, hc⟩ := HM3.out.says pt_keyed Tryz.underlying138 HD.out KY.out
          cases c with
          | false =>
            have hc' : ¬ keysP ss k (klP s.pt) := fun q => by have := hc.2 q; cases this
            have HL2 : Hid (Rows1 ss (k + 1) L) := hide ⟨by rw [HL1Y.out]; exact lf1, by rw [HLYf.out hc']; exact lf2, HL.out.2.2⟩
            clear hc hc' lf1 lf2 HL l1 l2
            go_upto_region 15 with (fail)
            have hn : k < maxLen := by unfold maxLen; omega
            have HG := hide (fun w6 (hM6 : MapB w6 55 (bF + 1 + 1 + 1) (k + 1) (D.put (klP s.pt) (.lit (.bool true)))) (hg6 : (W3).grownBy w6 (some (bF + 1 + 1 + 1))) => And.intro (HX3.out.tail.gmap HM3.out (by omega) hg6) (And.intro (HS3.out.gmap HM3.out hg6) hM6))
            go_wp2_with (at_mapUpdate; refine wpList_mapUpdate_own W3 rfl _ _ _ 138 rfl 55 4 pt_keyed Tryz.underlying138 (plainElem (H := Unit) Tryz.prog 4) (bF + 1 + 1 + 1) k D rfl HM3.out hn (.agg #[.int .i64 s.x, .int .i64 s.y]) (.bool true) (klP s.pt) rfl rfl KY.out (.lit (.bool true)) [] (Go.plainElem_bool Tryz.underlying4 true) ?_; intro w6 hM6 hg6)
            have HG6 := hide (HG.out w6 hM6 hg6)
            clear HG hM6 hg6 hr
            go_roundw
            case rel => exact ⟨k + 1, _, _, _, by omega, by go_num, hide HG6.out.1, hide HG6.out.2.1, HL2, hide HG6.out.2.2, HSY⟩
            case measure => simp [intOf]; omega
          | true =>
            have hc' : keysP ss k (klP s.pt) := hc.1 rfl
            have HL2 : Hid (Rows1 ss (k + 1) (upF L 2 (L 2 ++ [k]))) := hide ⟨by rw [HL1Y.out]; exact lf1, by rw [HLYt.out hc', ← lf2]; rfl, fun j h1 h2 => by
              show (if j = 2 then _ else L j) = []
              rw [if_neg h2]; exact HL.out.2.2 j h1 h2⟩
            clear hc hc' lf1 lf2 HL
            have f0' : (0 : Nat) < 1 := by decide
            have f1 : (L 2).length + 1 ≤ maxLen := by have := l2.out; unfold maxLen; omega
            have f2 : ((L 2).length + 1) * 8 ≤ 140737488355328 := by have := l2.out; omega
            have f4 : ∀ u ∈ [Value.int .i64 (k : Int)], u.oneCell' = true := by intro u hu; simp at hu; subst hu; rfl
            have f5 : w.heap.size ≤ (W3.alloc (.cells #[.int .i64 (k : Int)] 3)).heap.size := by have := HX3.out.1.size; simp; omega
            have AV := hide ((HS3.out.row 2 (by decide)).alloc (.cells #[.int .i64 (k : Int)] 3))
            have HO4 := hide (fun w4 (hg : (W3.alloc (.cells #[.int .i64 (k : Int)] 3)).grownBy w4 (f 2).ownBlock) => (HX3.out.alloc #[.int .i64 (k : Int)] 3).tail.grown AV.out hg (by simp))
            have n3 : ¬ (b3 = bF) := by omega
            have n4 : ¬ (bF = b3) := by omega
            clear l1 l2
            go_upto_region 15 with (at_builtin; refine wpList_append_lies _ rfl _ _ 135 rfl w.heap.size 3 i0 (.int .i64 0) 1 8 Tryz.underlying135 hi0 hz0 hz1 hz2 rfl (by decide) (f 2) (L 2).length (natV (L 2)) rfl AV.out ⟨W3.heap.size, 0, none⟩ 1 1 [.int .i64 (k : Int)] rfl rfl (World.news_of_block (cs := #[.int .i64 (k : Int)]) (t := 3) (fr := (0, 0)) (heap_alloc_new W3 _)) f4 f0' f1 f2 f5 (W3.heap.size + 1) (by simp) ?_; intro gg cp w4 hown4 hgrow hat4 hlt4; have hr4 := (HO4.out _ hgrow).r5)
            have O4 := HO4.out _ hgrow
            have S4 := hide (((HS3.out.to ((Below.refl _ _).alloc (Nat.le_refl _) (.cells #[.int .i64 (k : Int)] 3))).app (by decide) hown4 hgrow (by simpa using hat4)).set (O4.2 (bF, 136, cF f) (by simp)) (show (3 : Nat) ≠ 136 by decide) 2 (.slice (some ⟨gg, 0, none⟩) ((L 2).length + 1) cp))
            have M4 := hide ((((HM3.out.to ((Below.refl _ _).alloc (Nat.le_refl _) (.cells #[.int .i64 (k : Int)] 3))).row AV.out hgrow).setCell (a := ⟨bF, 2, none⟩) (by show bF + 1 + 1 + 1 ≠ bF; omega) (.slice (some ⟨gg, 0, none⟩) ((L 2).length + 1) cp)))
            have NF' : ∀ x ∈ [(b3, 55, #[Value.int .i64 s.x, .int .i64 s.y]), (bF + 1, 4, farR ss (k + 1)), (bF + 1 + 1, 137, #[.slice (some ⟨bF + 1, 0, none⟩) ss.length ss.length]), (w.heap.size, 52, #[.slice (some ⟨b, off, none⟩) ss.length c1, .slice A2 fs.length c2])], (x : Nat × TypeId × Array Value).1 ≠ bF := fun x hx => by
              rcases List.mem_cons.1 hx with rfl | hx
              · exact n3
              · exact NF.out x hx
            have N4 := hide ((O4.front2.set0 (by omega) NF' 2 (.slice (some ⟨gg, 0, none⟩) ((L 2).length + 1) cp)).back2)
            clear O4 hown4 hgrow hat4 hr4 HO4 AV f1 f2 f4 f5 NF'
            rw [cF_set f (by decide)] at N4
            generalize w4.setCell ⟨bF, 2, none⟩ (.slice (some ⟨gg, 0, none⟩) ((L 2).length + 1) cp) = W5 at *
            clear hr HX3 HS3 HM3
            have hn : k < maxLen := by unfold maxLen; omega
            have hr := N4.out.r5
            have HG := hide (fun w6 (hM6 : MapB w6 55 (bF + 1 + 1 + 1) (k + 1) (D.put (klP s.pt) (.lit (.bool true)))) (hg6 : (W5).grownBy w6 (some (bF + 1 + 1 + 1))) => And.intro (N4.out.tail.gmap M4.out (by omega) hg6) (And.intro (S4.out.gmap M4.out hg6) hM6))
            go_wp2_with (at_mapUpdate; refine wpList_mapUpdate_own W5 rfl _ _ _ 138 rfl 55 4 pt_keyed Tryz.underlying138 (plainElem (H := Unit) Tryz.prog 4) (bF + 1 + 1 + 1) k D rfl M4.out hn (.agg #[.int .i64 s.x, .int .i64 s.y]) (.bool true) (klP s.pt) rfl rfl KY.out (.lit (.bool true)) [] (Go.plainElem_bool Tryz.underlying4 true) ?_; intro w6 hM6 hg6)
            have HG6 := hide (HG.out w6 hM6 hg6)
            clear HG hM6 hg6 hr
            go_roundw
            case rel => exact ⟨k + 1, _, _, _, by omega, by go_num, hide HG6.out.1, hide HG6.out.2.1, HL2, hide HG6.out.2.2, HSY⟩
            case measure => simp [intOf]; omega
        · have hok : okS s = false := by simpa using hok
          have HK := hide (keysP_no (l := ss) (k := k) (by rw [eS.out]; exact hok))
          have HL2 : Hid (Rows1 ss (k + 1) (upF L 1 (L 1 ++ [k]))) := hide ⟨by
            show L 1 ++ [k] = _
            rw [lf1]; unfold fin1; rw [filt_s, if_pos (by simp [eS.out, hok])], by
            show L 2 = _
            rw [lf2]; unfold fin2; rw [filt_s, if_neg (by simp [eS.out, hok]), List.append_nil], fun j h1 h2 => by
            show (if j = 1 then _ else L j) = []
            rw [if_neg h1]; exact HL.out.2.2 j h1 h2⟩
          simp only [hok, Bool.not_false] at fk
          clear lf1 lf2 HL hok RGs RG
          have f0' : (0 : Nat) < 1 := by decide
          have f1 : (L 1).length + 1 ≤ maxLen := by have := l1.out; unfold maxLen; omega
          have f2 : ((L 1).length + 1) * 8 ≤ 140737488355328 := by have := l1.out; omega
          have f4 : ∀ u ∈ [Value.int .i64 (k : Int)], u.oneCell' = true := by intro u hu; simp at hu; subst hu; rfl
          have f5 : w.heap.size ≤ (wc.alloc (.cells #[.int .i64 (k : Int)] 3)).heap.size := by have := HO.out.1.size; simp; omega
          have AV := hide ((HS.out.row 1 (by decide)).alloc (.cells #[.int .i64 (k : Int)] 3))
          have HO4 := hide (fun w4 (hg : (wc.alloc (.cells #[.int .i64 (k : Int)] 3)).grownBy w4 (f 1).ownBlock) => (HO.out.alloc #[.int .i64 (k : Int)] 3).tail.tail.grown AV.out hg (by simp))
          clear l1 l2
          go_wp2_with (at_builtin; refine wpList_append_lies _ rfl _ _ 135 rfl w.heap.size 3 i0 (.int .i64 0) 1 8 Tryz.underlying135 hi0 hz0 hz1 hz2 rfl (by decide) (f 1) (L 1).length (natV (L 1)) rfl AV.out ⟨wc.heap.size, 0, none⟩ 1 1 [.int .i64 (k : Int)] rfl rfl (World.news_of_block (cs := #[.int .i64 (k : Int)]) (t := 3) (fr := (0, 0)) (heap_alloc_new wc _)) f4 f0' f1 f2 f5 (wc.heap.size + 1) (by simp) ?_; intro gg cp w4 hown4 hgrow hat4 hlt4; have hr4 := (HO4.out _ hgrow).r4)
          have O4 := HO4.out _ hgrow
          have S4 := hide (((HS.out.to ((Below.refl _ _).alloc (Nat.le_refl _) (.cells #[.int .i64 (k : Int)] 3))).app (by decide) hown4 hgrow (by simpa using hat4)).set (O4.2 (bF, 136, cF f) (by simp)) (show (3 : Nat) ≠ 136 by decide) 1 (.slice (some ⟨gg, 0, none⟩) ((L 1).length + 1) cp))
          have M4 := hide (((((HMp.out.to ((Below.refl _ _).alloc (Nat.le_refl _) (.cells #[.int .i64 (k : Int)] 3))).row AV.out hgrow).setCell (a := ⟨bF, 1, none⟩) (by show bF + 1 + 1 + 1 ≠ bF; omega) (.slice (some ⟨gg, 0, none⟩) ((L 1).length + 1) cp)).mono (Nat.le_succ k)))
          have N4 := hide ((O4.swap.set0 (by omega) NF.out 1 (.slice (some ⟨gg, 0, none⟩) ((L 1).length + 1) cp)).swap)
          clear O4 hown4 hgrow hat4 hr4 HO4 AV f1 f2 f4 f5
          rw [cF_set f (by decide)] at N4
          go_roundw
          case rel => exact ⟨k + 1, _, _, D, by omega, by go_num, N4, S4, HL2, M4, by rw [HK.out]; exact HD⟩
          case measure => simp [intOf]; omega
    -- R1 end
    · obtain rfl : k = ss.length := by omega
      have ST0 : Hid (St w (wr.alloc (.map #[] 0)) bF [(bF + 1, 4, farR ss ss.length), (bF + 1 + 1, 137, #[.slice (some ⟨bF + 1, 0, none⟩) ss.length ss.length]), (w.heap.size, 52, #[.slice A1 ss.length c1, .slice A2 fs.length c2])] f L wr.heap.size 0 (.map []) (.slice none 0 0) (sndT ss fs 0)) := hide
        ⟨(HO.out.swap.to ((Below.refl _ _).alloc (Nat.le_refl _) (.map #[] 0))), HS.out.to ((Below.refl _ _).alloc (Nat.le_refl _) (.map #[] 0)), World.ownsMap_made _ _ _ _, World.ownsRow_nil _ _ _ _, fun x hx => (by
          simp only [List.mem_cons, List.not_mem_nil, or_false] at hx
          rcases hx with rfl | rfl | rfl <;> simp), fun x hx => (by
          simp only [List.mem_cons, List.not_mem_nil, or_false] at hx
          rcases hx with rfl | rfl | rfl <;> simp <;> omega), by omega, HO.out.1.size⟩
      have R20 : Hid (Rows2 ss fs 0 L) := hide ⟨HL.out.2.2 0 (by decide) (by decide), HL.out.1, HL.out.2.1, HL.out.2.2 3 (by decide) (by decide), HL.out.2.2 4 (by decide) (by decide), HL.out.2.2 5 (by decide) (by decide), HL.out.2.2 6 (by decide) (by decide)⟩
      have SY0 : Hid (Says (.map []) (sidesP ss fs 0)) := hide (by
        have e : sidesP ss fs 0 = fun _ => False := (by funext t; apply propext; simp [sidesP, snd])
        rw [e]; exact Says.empty)
      clear HO HS HL HMp HD RG Y0 M0
      go_upto_region 19 with (fail)
      generalize wr.alloc (.map #[] 0) = W2 at *
      generalize wr.heap.size = bT at *
      have hr := ST0.out.own.r4
      have FA := hide (fun W h => mscorners_any h W)
      have TR := hide (fun W f h ha hb hc => mstri_any ⟨ss, fs⟩ ⟨A1, c1, A2, c2⟩ f W h ha hb hc)
      go_wp2
      go_loopw [11, 73] (fun v11 v73 wr => ∃ (j : Nat) (f : Nat → Value) (L : Nat → List Nat) (n : Nat) (D : DataW Unit), j ≤ fs.length ∧ v73 = .int .i64 j ∧ n ≤ 3 * j ∧
        Hid (St w wr bF [(bF + 1, 4, farR ss ss.length), (bF + 1 + 1, 137, #[.slice (some ⟨bF + 1, 0, none⟩) ss.length ss.length]), (w.heap.size, 52, #[.slice A1 ss.length c1, .slice A2 fs.length c2])] f L bT n D v11 (sndT ss fs j)) ∧
        Hid (Rows2 ss fs j L) ∧ Hid (Says D (sidesP ss fs j))) (fun _ v73 _ => fs.length - (intOf v73).toNat)
      case atStart => exact ⟨0, _, _, _, _, Nat.zero_le _, rfl, Nat.le_refl _, ST0, R20, SY0⟩
      case round =>
        obtain ⟨j, f, L, n, D, hj, rfl, hn, ST, RW, SY⟩ := hrel
        by_cases hlt : j < fs.length
        -- R2 begin
        · obtain ⟨b, off, e, hbl, hat⟩ := HM.out.2.2 (by show 0 < fs.length; omega)
          obtain rfl : A2 = some ⟨b, off, none⟩ := e
          obtain ⟨c0, c1', c2', c3'⟩ := hat j hlt
          replace c0 := (ST.out.own.1.cell (p := ⟨b, _, none⟩) hbl).trans c0
          replace c1' := (ST.out.own.1.cell (p := ⟨b, _, none⟩) hbl).trans c1'
          replace c2' := (ST.out.own.1.cell (p := ⟨b, _, none⟩) hbl).trans c2'
          replace c3' := (ST.out.own.1.cell (p := ⟨b, _, none⟩) hbl).trans c3'
          have IB := HM.out.2.1.2 j hlt
          have eF : Hid (fcA fs j = fs[j]) := hide (by simp [fcA, hlt])
          have nb : b < wr.heap.size := Nat.lt_of_lt_of_le hbl ST.out.own.1.size
          generalize fs[j] = t at *
          clear hat
          have hr0 := ST.out.own.r4
          go_upto_region 22 with (fail)
          have ST1 := hide (ST.out.alloc #[.int .i64 t.a, .int .i64 t.b, .int .i64 t.c, .int .i64 t.k] 49 (by decide))
          generalize wr.alloc (.cells #[.int .i64 t.a, .int .i64 t.b, .int .i64 t.c, .int .i64 t.k] 49) = W3 at *
          have nbf : bF + 1 + 1 < wr.heap.size := hr0.2.2.1.2.2
          generalize wr.heap.size = bf at *
          clear hr0 c0 c1' c2' c3' ST
          have hr := ST1.out.own.r5
          have FAt := hide (fun W => FA.out W t)
          unfold RetW at FAt
          go_wp2_with fail
          refine (FAt.out _).mono ?_
          rintro e w4 ⟨rfl, hb⟩
          have ST2 := hide (ST1.out.to hb)
          clear hb hr ST1
          go_upto_region 23 with (fail)
          have ST3 := hide (ST2.out.alloc #[.int .i64 t.a, .int .i64 t.b, .int .i64 t.c] 143 (by decide))
          have nbc : bf < w4.heap.size := ST2.out.own.r2.2.2.2
          generalize w4.alloc (.cells #[.int .i64 t.a, .int .i64 t.b, .int .i64 t.c] 143) = W4 at *
          generalize w4.heap.size = bc at *
          clear ST2
          have hr := ST3.out.own.r6
          have E8 : Hid (crB ss t = (!(!cnB ss t.a || (!cnB ss t.b || !cnB ss t.c)) && !decide (t.a = t.b) && !decide (t.b = t.c) && !decide (t.c = t.a) && decide (0 ≤ t.k) && decide (t.k < 16))) := hide (by simp [crB, Bool.and_assoc])
          have C1 : Hid (Calls Tryz.prog 89 #[.slice (some ⟨bc, 0, none⟩) 3 3, .func (.func 90) #[] #[.pointer (some ⟨w.heap.size, 0, none⟩), .pointer (some ⟨bF + 1 + 1, 0, none⟩)]] W4 fun e w' => e = .returned (.bool (!cnB ss t.a || (!cnB ss t.b || !cnB ss t.c))) ∧ W4 = w') := hide (by
            have := cont1_any ⟨ss, fs⟩ ⟨A1, c1, some ⟨b, off, none⟩, c2⟩ [t.a, t.b, t.c] (some ⟨bc, 0, none⟩) 3 w.heap.size (bF + 1 + 1) (some ⟨bF + 1, 0, none⟩) ss.length W4
              ⟨⟨by simp, fun i hi => by
                have hi' : i < 3 := hi
                obtain rfl | rfl | rfl : i = 0 ∨ i = 1 ∨ i = 2 := by omega
                · exact IB.1
                · exact IB.2.1
                · exact IB.2.2.1⟩, fun _ => ⟨bc, 0, rfl, hr.2.1.2.2, fun i hi => by
                have hi' : i < 3 := hi
                obtain rfl | rfl | rfl : i = 0 ∨ i = 1 ∨ i = 2 := by omega
                · exact hr.2.1.1 0
                · exact hr.2.1.1 1
                · exact hr.2.1.1 2⟩⟩ (by show ss.length ≤ _; omega) (ST3.out.own.2 (w.heap.size, 52, #[.slice A1 ss.length c1, .slice (some ⟨b, off, none⟩) fs.length c2]) (by simp)) (ST3.out.own.2 (bF + 1 + 1, 137, #[.slice (some ⟨bF + 1, 0, none⟩) ss.length ss.length]) (by simp)) (FarSl.of_blk (ST3.out.own.2 (bF + 1, 4, farR ss ss.length) (by simp)))
            simpa using this)
          generalize (!cnB ss t.a || (!cnB ss t.b || !cnB ss t.c)) = q0 at *
          go_cut [113] from 80 to 113 (fun v113 wx => v113 = .bool (!crB ss t) ∧ Hid (St w wx bF [(bc, 143, #[.int .i64 t.a, .int .i64 t.b, .int .i64 t.c]), (bf, 49, #[.int .i64 t.a, .int .i64 t.b, .int .i64 t.c, .int .i64 t.k]), (bF + 1, 4, farR ss ss.length), (bF + 1 + 1, 137, #[.slice (some ⟨bF + 1, 0, none⟩) ss.length ss.length]), (w.heap.size, 52, #[.slice A1 ss.length c1, .slice (some ⟨b, off, none⟩) fs.length c2])] f L bT n D u11 (sndT ss fs j)))
          case first =>
            -- CHAIN begin
            cases q0 with
            | true =>
              go_wp2_with fail
              refine C1.out.mono ?_
              rintro e w5 ⟨rfl, rfl⟩
              go_wp2_with fail
              go_meet
              exact ⟨by rw [E8.out]; rfl, ST3⟩
            | false =>
              by_cases e1 : t.a = t.b
              · have q1 : (t.a == t.b) = true := beq_iff_eq.2 e1
                have H1 := hide e1
                clear e1
                go_wp2_with fail
                refine C1.out.mono ?_
                rintro e w5 ⟨rfl, rfl⟩
                go_wp2_with fail
                go_meet
                exact ⟨by rw [E8.out]; simp [H1.out], ST3⟩
              have q1 : (t.a == t.b) = false := beq_eq_false_iff_ne.2 e1
              have H1 := hide e1
              clear e1
              by_cases e2 : t.b = t.c
              · have q2 : (t.b == t.c) = true := beq_iff_eq.2 e2
                have H2 := hide e2
                clear e2
                go_wp2_with fail
                refine C1.out.mono ?_
                rintro e w5 ⟨rfl, rfl⟩
                go_wp2_with fail
                go_meet
                exact ⟨by rw [E8.out]; simp [H2.out], ST3⟩
              have q2 : (t.b == t.c) = false := beq_eq_false_iff_ne.2 e2
              have H2 := hide e2
              clear e2
              by_cases e3 : t.c = t.a
              · have q3 : (t.c == t.a) = true := beq_iff_eq.2 e3
                have H3 := hide e3
                clear e3
                go_wp2_with fail
                refine C1.out.mono ?_
                rintro e w5 ⟨rfl, rfl⟩
                go_wp2_with fail
                go_meet
                exact ⟨by rw [E8.out]; simp [H1.out, H3.out], ST3⟩
              have q3 : (t.c == t.a) = false := beq_eq_false_iff_ne.2 e3
              have H3 := hide e3
              clear e3
              by_cases e4 : t.k < 0
              · have q4 : decide (t.k < 0) = true := decide_eq_true e4
                have H4 := hide e4
                clear e4
                go_wp2_with fail
                refine C1.out.mono ?_
                rintro e w5 ⟨rfl, rfl⟩
                go_wp2_with fail
                go_meet
                exact ⟨by have := H4.out; rw [E8.out]; simp; omega, ST3⟩
              have q4 : decide (t.k < 0) = false := decide_eq_false e4
              have H4 := hide e4
              clear e4
              by_cases e5 : 16 ≤ t.k
              · have q5 : decide (16 ≤ t.k) = true := decide_eq_true e5
                have H5 := hide e5
                clear e5
                go_wp2_with fail
                refine C1.out.mono ?_
                rintro e w5 ⟨rfl, rfl⟩
                go_wp2_with fail
                go_meet
                exact ⟨by have := H5.out; rw [E8.out]; simp; omega, ST3⟩
              have q5 : decide (16 ≤ t.k) = false := decide_eq_false e5
              have H5 := hide e5
              clear e5
              go_wp2_with fail
              refine C1.out.mono ?_
              rintro e w5 ⟨rfl, rfl⟩
              go_wp2_with fail
              go_meet
              exact ⟨by have h4 := H4.out; have h5 := H5.out; rw [E8.out]; simp [H1.out, H2.out, H3.out]; omega, ST3⟩
            -- CHAIN end
          case rest =>
            obtain ⟨rfl, ST⟩ := hcut
            clear ST3 hr C1 IB E8
            have hr := ST.out.own.r6
            have lb3 : Hid ((L 3).length ≤ 4000) := hide (by rw [RW.out.2.2.2.1]; exact Nat.le_trans (fin_lenL j) (by omega))
            have lb4 : Hid ((L 4).length ≤ 4000) := hide (by rw [RW.out.2.2.2.2.1]; exact Nat.le_trans (fin_lenL j) (by omega))
            have lb5 : Hid ((L 5).length ≤ 4000) := hide (by rw [RW.out.2.2.2.2.2.1]; exact Nat.le_trans (fin_lenL j) (by omega))
            have lb6 : Hid ((L 6).length ≤ 4000) := hide (by rw [RW.out.2.2.2.2.2.2]; exact Nat.le_trans (fin_lenL j) (by omega))
            cases hcr : crB ss t with
            | false =>
              -- BAD begin
              have RN := hide (rows_bad RW.out (by rw [eF.out]; exact hcr))
              have SN2 := hide (sidesP_no (ss := ss) (fs := fs) (k := j) (by rw [eF.out, hcr]; rfl))
              have TN := hide (sndT_no (ss := ss) (fs := fs) (k := j) (by rw [eF.out, hcr]; rfl))
              clear RW hcr
              have f0' : (0 : Nat) < 1 := by decide
              have f1 : (L 3).length + 1 ≤ maxLen := by have := lb3.out; unfold maxLen; omega
              have f2 : ((L 3).length + 1) * 8 ≤ 140737488355328 := by have := lb3.out; omega
              have f4 : ∀ u ∈ [Value.int .i64 (j : Int)], u.oneCell' = true := by intro u hu; simp at hu; subst hu; rfl
              have f5 : w.heap.size ≤ (wc.alloc (.cells #[.int .i64 (j : Int)] 3)).heap.size := by have := ST.out.own.1.size; simp; omega
              have AV := hide ((ST.out.six.row 3 (by decide)).alloc (.cells #[.int .i64 (j : Int)] 3))
              have HO4 := hide (fun wz (hg : (wc.alloc (.cells #[.int .i64 (j : Int)] 3)).grownBy wz (f 3).ownBlock) => (ST.out.own.alloc #[.int .i64 (j : Int)] 3).tail.grown AV.out hg (by simp))
              have cf : (cF f)[3]? = some (f 3) := rfl
              go_wp2_with (at_builtin; refine wpList_append_lies _ rfl _ _ 135 rfl w.heap.size 3 i0 (.int .i64 0) 1 8 Tryz.underlying135 hi0 hz0 hz1 hz2 rfl (by decide) (f 3) (L 3).length (natV (L 3)) rfl AV.out ⟨wc.heap.size, 0, none⟩ 1 1 [.int .i64 (j : Int)] rfl rfl (World.news_of_block (cs := #[.int .i64 (j : Int)]) (t := 3) (fr := (0, 0)) (heap_alloc_new wc _)) f4 f0' f1 f2 f5 (wc.heap.size + 1) (by simp) ?_; intro gg cp w4 hown4 hgrow hat4 hlt4; have hr4 := (HO4.out _ hgrow).r6)
              have SN := hide (ST.out.app (k := 3) (x := j) (by decide) hown4 hgrow (by simpa using hat4))
              clear hown4 hgrow hat4 hr4 HO4 AV f1 f2 f4 f5 cf
              go_roundw
              case rel => exact ⟨j + 1, _, _, n, D, by omega, by go_num, by omega, by rw [TN.out]; exact hide SN.out.tail.tail, RN, by rw [SN2.out]; exact SY⟩
              case measure => simp [intOf]; omega
              -- BAD end
            | true =>
              have TRt : Hid (∀ W, MshSl W ⟨ss, fs⟩ ⟨A1, c1, some ⟨b, off, none⟩, c2⟩ → Calls Tryz.prog 91 #[.agg #[.slice A1 ss.length c1, .slice (some ⟨b, off, none⟩) fs.length c2], .agg #[.int .i64 t.a, .int .i64 t.b, .int .i64 t.c, .int .i64 t.k]] W fun e w' => e = .returned (.agg (triA ss t).cells.toArray) ∧ Below W.heap.size W w') := hide (fun W h => TR.out W t h (cnB_in h1 (crB_cn hcr).1).1 (cnB_in h1 (crB_cn hcr).2.1).1 (cnB_in h1 (crB_cn hcr).2.2).1)
              have TI := hide (tri_in h1 hcr)
              have TU := hide (fun W => msturn_any _ _ _ W TI.out.1 TI.out.2.1 TI.out.2.2)
              unfold RetW at TU
              have EP : Hid (posB ss t = decide (0 < trn (triA ss t).p (triA ss t).q (triA ss t).r)) := hide rfl
              have ET : Hid (triA ss (fcA fs j) = triA ss t) := hide (by rw [eF.out])
              have HCR := hide hcr
              have HMw := hide (HM.out.below ST.out.own.1)
              clear hcr
              have SDI := hide (fun m => sd_in h1 HCR.out m)
              generalize triA ss t = T at *
              simp only [Tri.cells] at TRt
              go_wp2_with fail
              refine (TRt.out _ HMw.out).mono ?_
              rintro e w5 ⟨rfl, hb⟩
              have ST2 := hide (ST.out.to hb)
              clear hb hr ST TRt HMw
              go_upto_region 26 with (fail)
              have ST := hide (ST2.out.alloc #[.int .i64 T.p.x, .int .i64 T.p.y, .int .i64 T.q.x, .int .i64 T.q.y, .int .i64 T.r.x, .int .i64 T.r.y] 147 (by decide))
              have nbt : bc < w5.heap.size := ST2.out.own.r2.2.2.2
              generalize w5.alloc (.cells #[.int .i64 T.p.x, .int .i64 T.p.y, .int .i64 T.q.x, .int .i64 T.q.y, .int .i64 T.r.x, .int .i64 T.r.y] 147) = W5 at *
              generalize w5.heap.size = bt at *
              clear ST2
              have hr := ST.out.own.r7
              generalize trn T.p T.q T.r = tn at *
              go_wp2_with fail
              refine (TU.out _).mono ?_
              rintro e w6 ⟨rfl, hb⟩
              have ST2 := hide (ST.out.to hb)
              clear hb hr ST TU
              have ST := ST2
              clear ST2
              have hr := ST.out.own.r7
              by_cases hps : 0 < tn
              · have qt : decide (tn ≤ 0) = false := decide_eq_false (by omega)
                have HPS : Hid (posB ss t = true) := hide (EP.out.trans (decide_eq_true hps))
                clear EP hps
                obtain ⟨q0, Q0, lk0⟩ := says_ahead sd_keyed Tryz.underlying141 SY.out (klS_key (SDI.out 0))
                obtain ⟨q1, Q1, lk1⟩ := says_ahead sd_keyed Tryz.underlying141 SY.out (klS_key (SDI.out 1))
                obtain ⟨q2, Q2, lk2⟩ := says_ahead sd_keyed Tryz.underlying141 SY.out (klS_key (SDI.out 2))
                have LK0 := hide lk0
                have LK1 := hide lk1
                have LK2 := hide lk2
                have QA := hide (sides_any h1 (by rw [eF.out]; exact HCR.out) (by rw [eF.out]; exact Q0) (by rw [eF.out]; exact Q1) (by rw [eF.out]; exact Q2))
                have SD0 : Hid (∀ W, Calls Tryz.prog 93 #[.agg #[.int .i64 t.a, .int .i64 t.b, .int .i64 t.c, .int .i64 t.k], .int .i64 0] W fun e w' => e = .returned (.agg #[.int .i64 (sdA t 0).1, .int .i64 (sdA t 0).2]) ∧ Below W.heap.size W w') := hide (fun W => msside_any t 0 W (by decide))
                have SD1 : Hid (∀ W, Calls Tryz.prog 93 #[.agg #[.int .i64 t.a, .int .i64 t.b, .int .i64 t.c, .int .i64 t.k], .int .i64 1] W fun e w' => e = .returned (.agg #[.int .i64 (sdA t 1).1, .int .i64 (sdA t 1).2]) ∧ Below W.heap.size W w') := hide (fun W => msside_any t 1 W (by decide))
                have SD2 : Hid (∀ W, Calls Tryz.prog 93 #[.agg #[.int .i64 t.a, .int .i64 t.b, .int .i64 t.c, .int .i64 t.k], .int .i64 2] W fun e w' => e = .returned (.agg #[.int .i64 (sdA t 2).1, .int .i64 (sdA t 2).2]) ∧ Below W.heap.size W w') := hide (fun W => msside_any t 2 W (by decide))
                clear lk0 lk1 lk2 Q0 Q1 Q2
                have Z := ST
                clear ST
                go_upto_region 28 with (fail)
                go_cut [152] from 137 to 152 (fun v152 wx => v152 = .bool (q0 || q1 || q2) ∧ Hid (St w wx bF [(bt, 147, #[.int .i64 T.p.x, .int .i64 T.p.y, .int .i64 T.q.x, .int .i64 T.q.y, .int .i64 T.r.x, .int .i64 T.r.y]), (bc, 143, #[.int .i64 t.a, .int .i64 t.b, .int .i64 t.c]), (bf, 49, #[.int .i64 t.a, .int .i64 t.b, .int .i64 t.c, .int .i64 t.k]), (bF + 1, 4, farR ss ss.length), (bF + 1 + 1, 137, #[.slice (some ⟨bF + 1, 0, none⟩) ss.length ss.length]), (w.heap.size, 52, #[.slice A1 ss.length c1, .slice (some ⟨b, off, none⟩) fs.length c2])] f L bT n D u11 (sndT ss fs j)))
                case first =>
                  -- SIDES begin
                  go_wp2_with fail
                  refine (SD0.out _).mono ?_
                  rintro e z0 ⟨rfl, hb0⟩
                  have Z0 := hide (Z.out.to hb0)
                  have lk := LK0.out _ _ _ Z0.out.mp
                  clear hb0 hr
                  have hr := Z0.out.own.r7
                  cases q0 with
                  | true =>
                    go_wp2_with fail
                    go_meet
                    exact ⟨rfl, Z0⟩
                  | false =>
                    go_wp2_with fail
                    refine (SD1.out _).mono ?_
                    rintro e z1 ⟨rfl, hb1⟩
                    have Z1 := hide (Z0.out.to hb1)
                    have lk := LK1.out _ _ _ Z1.out.mp
                    clear hb1 hr
                    have hr := Z1.out.own.r7
                    cases q1 with
                    | true =>
                      go_wp2_with fail
                      go_meet
                      exact ⟨rfl, Z1⟩
                    | false =>
                      go_wp2_with fail
                      refine (SD2.out _).mono ?_
                      rintro e z2 ⟨rfl, hb2⟩
                      have Z2 := hide (Z1.out.to hb2)
                      have lk := LK2.out _ _ _ Z2.out.mp
                      clear hb2 hr
                      have hr := Z2.out.own.r7
                      cases q2 with
                      | true =>
                        go_wp2_with fail
                        go_meet
                        exact ⟨rfl, Z2⟩
                      | false =>
                        go_wp2_with fail
                        go_meet
                        exact ⟨rfl, Z2⟩
                -- SIDES end
                case rest =>
                  obtain ⟨rfl, ST⟩ := hcut
                  clear Z hr SD0 SD1 SD2 LK0 LK1 LK2
                  have hr := ST.out.own.r7
                  have R5 := hide (rows_5 RW.out (by rw [eF.out]; exact HCR.out) (by rw [eF.out]; exact HPS.out) QA.out)
                  clear RW QA
                  generalize (q0 || q1 || q2) = q at *
                  go_upto_if 152 with (fail)
                  go_cut [] from 153 to 158 (fun wx => ∃ (f' : Nat → Value) (L' : Nat → List Nat), Hid (St w wx bF [(bt, 147, #[.int .i64 T.p.x, .int .i64 T.p.y, .int .i64 T.q.x, .int .i64 T.q.y, .int .i64 T.r.x, .int .i64 T.r.y]), (bc, 143, #[.int .i64 t.a, .int .i64 t.b, .int .i64 t.c]), (bf, 49, #[.int .i64 t.a, .int .i64 t.b, .int .i64 t.c, .int .i64 t.k]), (bF + 1, 4, farR ss ss.length), (bF + 1 + 1, 137, #[.slice (some ⟨bF + 1, 0, none⟩) ss.length ss.length]), (w.heap.size, 52, #[.slice A1 ss.length c1, .slice (some ⟨b, off, none⟩) fs.length c2])] f' L' bT n D u11 (sndT ss fs j)) ∧ Hid (Rows3 ss fs j L'))
                  case first =>
                    cases q with
                    | true =>
                      have f0' : (0 : Nat) < 1 := by decide
                      have f1 : (L 5).length + 1 ≤ maxLen := by have := lb5.out; unfold maxLen; omega
                      have f2 : ((L 5).length + 1) * 8 ≤ 140737488355328 := by have := lb5.out; omega
                      have f4 : ∀ u ∈ [Value.int .i64 (j : Int)], u.oneCell' = true := by intro u hu; simp at hu; subst hu; rfl
                      have f5 : w.heap.size ≤ (wc.alloc (.cells #[.int .i64 (j : Int)] 3)).heap.size := by have := ST.out.own.1.size; simp; omega
                      have AV := hide ((ST.out.six.row 5 (by decide)).alloc (.cells #[.int .i64 (j : Int)] 3))
                      have HO4 := hide (fun wz (hg : (wc.alloc (.cells #[.int .i64 (j : Int)] 3)).grownBy wz (f 5).ownBlock) => (ST.out.own.alloc #[.int .i64 (j : Int)] 3).tail.grown AV.out hg (by simp))
                      have cf : (cF f)[5]? = some (f 5) := rfl
                      go_wp2_with (at_builtin; refine wpList_append_lies _ rfl _ _ 135 rfl w.heap.size 3 i0 (.int .i64 0) 1 8 Tryz.underlying135 hi0 hz0 hz1 hz2 rfl (by decide) (f 5) (L 5).length (natV (L 5)) rfl AV.out ⟨wc.heap.size, 0, none⟩ 1 1 [.int .i64 (j : Int)] rfl rfl (World.news_of_block (cs := #[.int .i64 (j : Int)]) (t := 3) (fr := (0, 0)) (heap_alloc_new wc _)) f4 f0' f1 f2 f5 (wc.heap.size + 1) (by simp) ?_; intro gg cp w4 hown4 hgrow hat4 hlt4; have hr4 := (HO4.out _ hgrow).r7)
                      have SN := hide (ST.out.app (k := 5) (x := j) (by decide) hown4 hgrow (by simpa using hat4))
                      clear hown4 hgrow hat4 hr4 HO4 AV f1 f2 f4 f5 cf
                      go_meet
                      exact ⟨_, _, SN, hide (R5.out.1 (by simp))⟩
                    | false =>
                      go_wp2_with fail
                      go_meet
                      exact ⟨_, _, ST, hide (R5.out.2 (by simp))⟩
                  case rest =>
                    obtain ⟨f', L', ST5, R3⟩ := hcut
                    clear hr ST R5 lb3 lb4 lb5 lb6
                    have lb6 : Hid ((L' 6).length ≤ 4000) := hide (by rw [R3.out.2.2.2.2.2.2]; exact Nat.le_trans (fin_lenL j) (by omega))
                    have SDm := hide (fun W m h => msside_any t m W h)
                    unfold RetW at SDm
                    go_wp2
                    go_loopw [159] (fun v159 wr => ∃ (m n' : Nat) (D' : DataW Unit), m ≤ 3 ∧ v159 = .int .i64 m ∧ n' ≤ n + m ∧ Hid (St w wr bF [(bt, 147, #[.int .i64 T.p.x, .int .i64 T.p.y, .int .i64 T.q.x, .int .i64 T.q.y, .int .i64 T.r.x, .int .i64 T.r.y]), (bc, 143, #[.int .i64 t.a, .int .i64 t.b, .int .i64 t.c]), (bf, 49, #[.int .i64 t.a, .int .i64 t.b, .int .i64 t.c, .int .i64 t.k]), (bF + 1, 4, farR ss ss.length), (bF + 1 + 1, 137, #[.slice (some ⟨bF + 1, 0, none⟩) ss.length ss.length]), (w.heap.size, 52, #[.slice A1 ss.length c1, .slice (some ⟨b, off, none⟩) fs.length c2])] f' L' bT n' D' u11 (sndT ss fs j)) ∧ Hid (Says D' (fun u => (∃ i, i < m ∧ u = klS (sdA t i)) ∨ sidesP ss fs j u))) (fun v159 _ => 3 - (intOf v159).toNat)
                    case atStart => exact ⟨0, n, D, by omega, rfl, by omega, ST5, hide (by simpa using SY.out)⟩
                    case round =>
                      obtain ⟨m, n', D', hm, rfl, hn', ST, SY'⟩ := hrel
                      have hr := ST.out.own.r7
                      by_cases hm3 : m < 3
                      · -- LAY begin
                        have HSY := hide (SY'.out.put (klS_is (sdA t m)))
                        rw [sides_step] at HSY
                        have KY := hide (klS_key (SDI.out m))
                        have hn2 : n' < maxLen := by unfold maxLen; omega
                        go_wp2_with fail
                        refine (SDm.out _ m hm3).mono ?_
                        rintro e z ⟨rfl, hb⟩
                        have Z := hide (ST.out.to hb)
                        clear hb hr ST
                        have hr := Z.out.own.r7
                        go_wp2_with (at_mapUpdate; refine wpList_mapUpdate_own z rfl _ _ _ 141 rfl 150 4 sd_keyed Tryz.underlying141 (plainElem (H := Unit) Tryz.prog 4) bT n' D' rfl Z.out.mp hn2 (.agg #[.int .i64 (sdA t m).1, .int .i64 (sdA t m).2]) (.bool true) (klS (sdA t m)) rfl rfl KY.out (.lit (.bool true)) [] (Go.plainElem_bool Tryz.underlying4 true) ?_; intro w6 hM6 hg6)
                        have Z6 := hide (Z.out.put hM6 hg6)
                        clear hM6 hg6 hr
                        go_roundw
                        case rel => exact ⟨m + 1, n' + 1, _, by omega, by go_num, by omega, Z6, HSY⟩
                        case measure => simp [intOf]; omega
                        -- LAY end
                      · obtain rfl : m = 3 := by omega
                        have SY4 : Hid (Says D' (sidesP ss fs (j + 1))) := hide (by
                          rw [sidesP_yes (by rw [eF.out, HCR.out, HPS.out]; rfl), eF.out]; exact SY'.out)
                        obtain ⟨As, cs, hv, hts⟩ := TriSl.of_row ST.out.snd (Nat.le_trans sndT_len (by omega))
                        subst hv
                        have CT := hide (contT_any T (sndT ss fs j) As cs bt _ hts TI.out (sndT_in h1) (ST.out.own.2 (bt, 147, #[.int .i64 T.p.x, .int .i64 T.p.y, .int .i64 T.q.x, .int .i64 T.q.y, .int .i64 T.r.x, .int .i64 T.r.y]) (by simp)))
                        have R6 := hide (rows_6 R3.out (by rw [eF.out]; exact HCR.out) (by rw [eF.out]; exact HPS.out) (a := (sndT ss fs j).any (ovlB T)) (by rw [ET.out]))
                        unfold RetW at CT
                        clear hts SY' SY R3 ST5
                        generalize hq6 : (sndT ss fs j).any (ovlB T) = q6 at *
                        clear hq6
                        go_wp2_with fail
                        refine CT.out.mono ?_
                        rintro e z ⟨rfl, hb⟩
                        have Z := hide (ST.out.to hb)
                        clear hb hr ST CT
                        have hr := Z.out.own.r7
                        go_upto_if 169 with (fail)
                        go_cut [] from 170 to 175 (fun wx => ∃ (f2 : Nat → Value) (L2 : Nat → List Nat), Hid (St w wx bF [(bt, 147, #[.int .i64 T.p.x, .int .i64 T.p.y, .int .i64 T.q.x, .int .i64 T.q.y, .int .i64 T.r.x, .int .i64 T.r.y]), (bc, 143, #[.int .i64 t.a, .int .i64 t.b, .int .i64 t.c]), (bf, 49, #[.int .i64 t.a, .int .i64 t.b, .int .i64 t.c, .int .i64 t.k]), (bF + 1, 4, farR ss ss.length), (bF + 1 + 1, 137, #[.slice (some ⟨bF + 1, 0, none⟩) ss.length ss.length]), (w.heap.size, 52, #[.slice A1 ss.length c1, .slice (some ⟨b, off, none⟩) fs.length c2])] f2 L2 bT n' D' (.slice As (sndT ss fs j).length cs) (sndT ss fs j)) ∧ Hid (Rows2 ss fs (j + 1) L2))
                        case first =>
                          cases q6 with
                          | true =>
                            have f0' : (0 : Nat) < 1 := by decide
                            have f1 : (L' 6).length + 1 ≤ maxLen := by have := lb6.out; unfold maxLen; omega
                            have f2 : ((L' 6).length + 1) * 8 ≤ 140737488355328 := by have := lb6.out; omega
                            have f4 : ∀ u ∈ [Value.int .i64 (j : Int)], u.oneCell' = true := by intro u hu; simp at hu; subst hu; rfl
                            have f5 : w.heap.size ≤ (z.alloc (.cells #[.int .i64 (j : Int)] 3)).heap.size := by have := Z.out.own.1.size; simp; omega
                            have AV := hide ((Z.out.six.row 6 (by decide)).alloc (.cells #[.int .i64 (j : Int)] 3))
                            have HO4 := hide (fun wz (hg : (z.alloc (.cells #[.int .i64 (j : Int)] 3)).grownBy wz (f' 6).ownBlock) => (Z.out.own.alloc #[.int .i64 (j : Int)] 3).tail.grown AV.out hg (by simp))
                            have cf : (cF f')[6]? = some (f' 6) := rfl
                            go_wp2_with (at_builtin; refine wpList_append_lies _ rfl _ _ 135 rfl w.heap.size 3 i0 (.int .i64 0) 1 8 Tryz.underlying135 hi0 hz0 hz1 hz2 rfl (by decide) (f' 6) (L' 6).length (natV (L' 6)) rfl AV.out ⟨z.heap.size, 0, none⟩ 1 1 [.int .i64 (j : Int)] rfl rfl (World.news_of_block (cs := #[.int .i64 (j : Int)]) (t := 3) (fr := (0, 0)) (heap_alloc_new z _)) f4 f0' f1 f2 f5 (z.heap.size + 1) (by simp) ?_; intro gg cp w4 hown4 hgrow hat4 hlt4; have hr4 := (HO4.out _ hgrow).r7)
                            have SN := hide (Z.out.app (k := 6) (x := j) (by decide) hown4 hgrow (by simpa using hat4))
                            clear hown4 hgrow hat4 hr4 HO4 AV f1 f2 f4 f5 cf
                            go_meet
                            exact ⟨_, _, SN, hide (R6.out.1 (by simp))⟩
                          | false =>
                            go_wp2_with fail
                            go_meet
                            exact ⟨_, _, Z, hide (R6.out.2 (by simp))⟩
                        case rest =>
                          obtain ⟨f2, L2, Z2, RN⟩ := hcut
                          clear hr Z R6
                          have hr := Z2.out.own.r7
                          have lk := @sndT_len ss fs j
                          have f0' : (0 : Nat) < 1 := by decide
                          have f1 : (sndT ss fs j).length + 1 ≤ maxLen := by unfold maxLen; omega
                          have f2 : ((sndT ss fs j).length + 1) * 48 ≤ 140737488355328 := by omega
                          have f4 : ∀ u ∈ ([.int .i64 T.p.x, .int .i64 T.p.y, .int .i64 T.q.x, .int .i64 T.q.y, .int .i64 T.r.x, .int .i64 T.r.y] : List Value), u.oneCell' = true := by
                            intro u hu
                            simp only [List.mem_cons, List.not_mem_nil, or_false] at hu
                            rcases hu with rfl | rfl | rfl | rfl | rfl | rfl <;> rfl
                          have f5 : w.heap.size ≤ (wc.alloc (.cells #[.int .i64 T.p.x, .int .i64 T.p.y, .int .i64 T.q.x, .int .i64 T.q.y, .int .i64 T.r.x, .int .i64 T.r.y] 147)).heap.size := by have := Z2.out.own.1.size; simp; omega
                          have AV := hide (Z2.out.snd.alloc (.cells #[.int .i64 T.p.x, .int .i64 T.p.y, .int .i64 T.q.x, .int .i64 T.q.y, .int .i64 T.r.x, .int .i64 T.r.y] 147))
                          obtain ⟨k0, hk0, hy0, hy1, hy2⟩ := info_parts tri_infoM
                          clear lk
                          go_wp2_with (at_builtin; refine wpList_append_lies _ rfl _ _ 142 rfl w.heap.size 147 k0 (.agg #[.int .i64 0, .int .i64 0, .int .i64 0, .int .i64 0, .int .i64 0, .int .i64 0]) 6 48 Tryz.underlying142 hk0 hy0 hy1 hy2 rfl (by decide) (.slice As (sndT ss fs j).length cs) (sndT ss fs j).length (flatT (sndT ss fs j)) rfl AV.out ⟨wc.heap.size, 0, none⟩ 1 1 [.int .i64 T.p.x, .int .i64 T.p.y, .int .i64 T.q.x, .int .i64 T.q.y, .int .i64 T.r.x, .int .i64 T.r.y] rfl rfl (World.news_of_block (cs := #[.int .i64 T.p.x, .int .i64 T.p.y, .int .i64 T.q.x, .int .i64 T.q.y, .int .i64 T.r.x, .int .i64 T.r.y]) (t := 147) (fr := (0, 0)) (heap_alloc_new wc _)) f4 f0' f1 f2 f5 (wc.heap.size + 1) (by simp) ?_; intro gg cp w8 hown8 hgrow8 hat8 hlt8)
                          have SN := hide (Z2.out.tail.more (by simp) (t := T) hown8 hgrow8)
                          clear hown8 hgrow8 AV f1 f2 f4 f5
                          go_roundw
                          case rel => exact ⟨j + 1, _, _, n', D', by omega, by go_num, by omega, by rw [sndT_yes (by rw [eF.out, HCR.out, HPS.out]; rfl), ET.out]; exact hide SN.out.tail.tail, RN, SY4⟩
                          case measure => simp [intOf]; omega
              · have qt : decide (tn ≤ 0) = true := decide_eq_true (by omega)
                have HPS : Hid (posB ss t = false) := hide (EP.out.trans (decide_eq_false hps))
                clear EP hps
                -- FLAT begin
                have RN := hide (rows_flat RW.out (by rw [eF.out]; exact HCR.out) (by rw [eF.out]; exact HPS.out))
                have SN2 := hide (sidesP_no (ss := ss) (fs := fs) (k := j) (by rw [eF.out, HPS.out, Bool.and_false]))
                have TN := hide (sndT_no (ss := ss) (fs := fs) (k := j) (by rw [eF.out, HPS.out, Bool.and_false]))
                clear RW HPS HCR
                have f0' : (0 : Nat) < 1 := by decide
                have f1 : (L 4).length + 1 ≤ maxLen := by have := lb4.out; unfold maxLen; omega
                have f2 : ((L 4).length + 1) * 8 ≤ 140737488355328 := by have := lb4.out; omega
                have f4 : ∀ u ∈ [Value.int .i64 (j : Int)], u.oneCell' = true := by intro u hu; simp at hu; subst hu; rfl
                have f5 : w.heap.size ≤ (w6.alloc (.cells #[.int .i64 (j : Int)] 3)).heap.size := by have := ST.out.own.1.size; simp; omega
                have AV := hide ((ST.out.six.row 4 (by decide)).alloc (.cells #[.int .i64 (j : Int)] 3))
                have HO4 := hide (fun wz (hg : (w6.alloc (.cells #[.int .i64 (j : Int)] 3)).grownBy wz (f 4).ownBlock) => (ST.out.own.alloc #[.int .i64 (j : Int)] 3).tail.grown AV.out hg (by simp))
                have cf : (cF f)[4]? = some (f 4) := rfl
                go_wp2_with (at_builtin; refine wpList_append_lies _ rfl _ _ 135 rfl w.heap.size 3 i0 (.int .i64 0) 1 8 Tryz.underlying135 hi0 hz0 hz1 hz2 rfl (by decide) (f 4) (L 4).length (natV (L 4)) rfl AV.out ⟨w6.heap.size, 0, none⟩ 1 1 [.int .i64 (j : Int)] rfl rfl (World.news_of_block (cs := #[.int .i64 (j : Int)]) (t := 3) (fr := (0, 0)) (heap_alloc_new w6 _)) f4 f0' f1 f2 f5 (w6.heap.size + 1) (by simp) ?_; intro gg cp w4 hown4 hgrow hat4 hlt4; have hr4 := (HO4.out _ hgrow).r7)
                have SN := hide (ST.out.app (k := 4) (x := j) (by decide) hown4 hgrow (by simpa using hat4))
                clear hown4 hgrow hat4 hr4 HO4 AV f1 f2 f4 f5 cf
                go_roundw
                case rel => exact ⟨j + 1, _, _, n, D, by omega, by go_num, by omega, by rw [TN.out]; exact hide SN.out.tail.tail.tail, RN, by rw [SN2.out]; exact SY⟩
                case measure => simp [intOf]; omega
                -- FLAT end
        -- R2 end
        -- TAIL begin
        · obtain rfl : j = fs.length := by omega
          have hr := ST.out.own.r4
          have e0 : (cF f)[0]? = some (f 0) := rfl
          have e1 : (cF f)[1]? = some (f 1) := rfl
          have e2 : (cF f)[2]? = some (f 2) := rfl
          have e3 : (cF f)[3]? = some (f 3) := rfl
          have e4 : (cF f)[4]? = some (f 4) := rfl
          have e5 : (cF f)[5]? = some (f 5) := rfl
          have e6 : (cF f)[6]? = some (f 6) := rfl
          have BD := hide (RW.out.bd h1 h2)
          have OB0 : Hid (Ob w wr f L (.slice none 0 0) (sumL L 0)) := hide ⟨ST.out.own.1, ST.out.six, [], World.ownsRow_nil _ _ _ _⟩
          have B2 := hide (RW.out.bd2 h1 h2)
          have PO := hide (sumL_zero RW.out (show smB ⟨ss, fs⟩ = true by simp [smB, h1, h2]))
          clear ST SY
          go_wp2
          clear e0 e1 e2 e3 e4 e5 e6 hr
          go_loopw [17, 182] (fun v17 v182 wr => ∃ i : Nat, i ≤ 7 ∧ v182 = .int .i64 i ∧ Hid (Ob w wr f L v17 (sumL L i))) (fun _ v182 _ => 7 - (intOf v182).toNat)
          case atStart => exact ⟨0, by omega, rfl, OB0⟩
          case round =>
            obtain ⟨i, hi, rfl, OB⟩ := hrel
            by_cases hi7 : i < 7
            · obtain ⟨Ai, ci, hfi, -⟩ := natSl (OB.out.six.row i hi7) (BD.out i hi7) (B2.out i hi7)
              have hix : ∀ W : World, (Instr.index 136 (.agg #[f 0, f 1, f 2, f 3, f 4, f 5, f 6]) (.int .i64 (i : Int))).run Tryz.prog W = .ok (.slice Ai (L i).length ci) W := fun W => by rw [index_seven f hi7 W, hfi]
              have bi := hide (BD.out i hi7)
              have bs := hide (sumL_le BD.out i hi)
              have bx := hide (B2.out i hi7)
              have HFI := hide hfi
              obtain ⟨li, hli⟩ : ∃ li, li = L i := ⟨_, rfl⟩
              rw [← hli] at hix bi bx HFI
              have HLI := hide hli
              clear hfi hli
              have OBI := OB
              clear OB
              have d7 : decide ((i : Int) < 7) = true := decide_eq_true (by omega)
              go_wp2
              clear hix
              go_loopw [17, 188] (fun v17 v188 wr => ∃ k : Nat, k ≤ li.length ∧ v188 = .int .i64 k ∧ Hid (Ob w wr f L v17 (sumL L i + k))) (fun _ v188 _ => li.length - (intOf v188).toNat)
              case atStart => exact ⟨0, by omega, rfl, OBI⟩
              case round =>
                obtain ⟨k, hk, rfl, OB⟩ := hrel
                by_cases hk1 : k < li.length
                · have key : IntSl wr Ai (li.map fun x : Nat => (x : Int)) := by
                    obtain ⟨A', c', hf', hs'⟩ := natSl (OB.out.six.row i hi7) (BD.out i hi7) (B2.out i hi7)
                    rw [HFI.out] at hf'
                    injection hf' with e1
                    rw [HLI.out, e1]
                    exact hs'
                  obtain ⟨b, off, rfl, hbl, hat⟩ := key.2 (by simp; omega)
                  have c0 := hat k (by simpa using hk1)
                  rw [List.getElem_map] at c0
                  have bx0 := bx.out _ (List.getElem_mem hk1)
                  generalize li[k] = x at *
                  have HTw := hide (tab_below HT.out OB.out.below)
                  clear hat key
                  go_wp2_with fail
                  refine (itoaT (x : Int) _ (by omega) (by omega) HTw.out).mono ?_
                  rintro e z ⟨⟨sv, rfl⟩, hb⟩
                  have OBz := hide (OB.out.to hb)
                  clear hb OB c0 OBI HTw
                  obtain ⟨xs, hx⟩ := OBz.out.row
                  have HX := hide hx
                  obtain ⟨k0, hk0, hy0, hy1, hy2⟩ := info_parts find_infoM
                  have f0' : (0 : Nat) < 1 := by decide
                  have f1 : sumL L i + k + 1 ≤ maxLen := by have := bs.out; have := bi.out; unfold maxLen; omega
                  have f2 : (sumL L i + k + 1) * 24 ≤ 140737488355328 := by have := bs.out; have := bi.out; omega
                  have f4 : ∀ u ∈ ([.int .i64 (i : Int), .string sv] : List Value), u.oneCell' = true := by
                    intro u hu
                    simp only [List.mem_cons, List.not_mem_nil, or_false] at hu
                    rcases hu with rfl | rfl <;> rfl
                  have f5 : w.heap.size ≤ (z.alloc (.cells #[.int .i64 (i : Int), .string sv] 156)).heap.size := by have := OBz.out.below.size; simp; omega
                  have AV := hide (hx.alloc (.cells #[.int .i64 (i : Int), .string sv] 156))
                  clear hx
                  go_wp2_with (at_builtin; refine wpList_append_lies _ rfl _ _ 115 rfl w.heap.size 156 k0 (.agg #[.int .i64 0, .string ⟨#[]⟩]) 2 24 Tryz.underlying115 hk0 hy0 hy1 hy2 rfl (by decide) u17 (sumL L i + k) xs rfl AV.out ⟨z.heap.size, 0, none⟩ 1 1 [.int .i64 (i : Int), .string sv] rfl rfl (World.news_of_block (cs := #[.int .i64 (i : Int), .string sv]) (t := 156) (fr := (0, 0)) (heap_alloc_new z _)) f4 f0' f1 f2 f5 (z.heap.size + 1) (by simp) ?_; intro gg cp w8 hown8 hgrow8 hat8 hlt8)
                  have SN := hide (OBz.out.grow hown8 hgrow8)
                  clear hown8 hgrow8 AV f1 f2 f4 f5
                  go_roundw
                  case rel => exact ⟨k + 1, by omega, by go_num, SN⟩
                  case measure => simp [intOf]; omega
                · obtain rfl : k = li.length := by omega
                  go_wp2
                  go_roundw
                  case rel => exact ⟨i + 1, by omega, by go_num, by rw [show sumL L (i + 1) = sumL L i + li.length from by simp [sumL, HLI.out]]; exact OB⟩
                  case measure => simp [intOf]; omega
            · obtain rfl : i = 7 := by omega
              go_wp2
              obtain ⟨A, c, rfl⟩ : ∃ A c, u17 = .slice A (sumL L 7) c := by
                obtain ⟨xs, hx⟩ := OB.out.row
                rcases hx.2 with ⟨rfl, h0⟩ | ⟨g, cap, _, rfl, _⟩
                · exact ⟨none, 0, by rw [h0]⟩
                · exact ⟨_, cap, rfl⟩
              exact bodyPost_ret (v := .tuple #[.slice A (sumL L 7) c, .int .i64 0]) (by simp [results, Tryz.results62, go_sem]) rfl ⟨⟨A, _, c, rfl, PO.out⟩, OB.out.below⟩
        -- TAIL end
end Go.Proofs.YtlnlaopokelggaaGreatDoor
