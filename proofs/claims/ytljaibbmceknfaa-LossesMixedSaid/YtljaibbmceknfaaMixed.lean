/- LossesMixed: a mixture of classes that are all alike runs off as one of them with the area of all: for every input the law returns true. -/
import Derived.Test.YtljaibbmceknfaaStoFn
import Derived.Test.YtljaibbmceknfaaStoEq
import Derived.Laws.IdiomStrings
import Derived.Deep.DeepCutAuto
import Derived.Deep.RegionHeldLaw
namespace Go.Proofs.Ytljaibbmceknfaa
open Go.RowKit

theorem cls_info : (Try.prog.info? 23).map (fun i => (i.zero, i.size, i.bytes)) = some (some (.agg #[.string ⟨#[]⟩, .int .i64 0, .int .i64 0, .int .i64 0, .int .i64 0]), 5, 48) := by kernel_rfl
theorem kn_conv (i : Nat) (h : i < 16) (W : World) (g cap : Nat) (h0 : W.cell? ⟨g, 0, none⟩ = some (.int .u8 107)) (h1 : W.cell? ⟨g, 1, none⟩ = some (.int .u8 (97 + (i : Int)))) :
    (convert 48 9 (.slice (some ⟨g, 0, none⟩) 2 cap)).run Try.prog W = .ok (.string (kn i)) W := by
  refine run_convert_bytes_back (P := Try.prog) W 48 9 5 ⟨g, 0, none⟩ cap [107, UInt8.ofNat (97 + i)] Try.underlying48 Try.underlying5 Try.underlying9 (fun j hj => ?_)
  have e : ∀ j, (⟨g, 0, none⟩ : Addr).add j = ⟨g, j, none⟩ := fun j => by unfold Addr.add; split <;> simp_all
  rw [e]
  match j, hj with
  | 0, _ => exact h0
  | 1, _ =>
    rw [h1]
    have : ((UInt8.ofNat (97 + i)).toNat : Int) = 97 + (i : Int) := by simp; omega
    rw [← this]; simp
set_option maxRecDepth 100000 in
set_option maxHeartbeats 4000000 in
theorem mixed_any (c : Cls) (s : Sto) (ar : List Int) (A : Option Addr) (cap : Nat) (d t : Int) (w : World) (hnm : c.nm.size ≤ maxLen) (ha : IntSl w A ar) :
    Calls Try.prog 7 #[c.val, s.val, .slice A ar.length cap, .int .i64 d, .int .i64 t] w fun e w' => e = .returned (.bool true) ∧ Below w.heap.size w w' := by
  have hlen : ar.length ≤ 9223372036854775807 := ha.1.1
  have HA := hide ha
  clear ha
  have X := ((Own.start w).alloc #[.string c.nm, .int .i64 c.se, .int .i64 c.we, .int .i64 c.ro, .int .i64 c.dr] 23).alloc #[.int .i64 s.wt, .int .i64 s.he] 25
  simp only [World.size_alloc] at X
  have L : (smallB c = false) ∨ (smallB c = true ∧ ar.length < 1) ∨ (smallB c = true ∧ 1 ≤ ar.length ∧ 16 < ar.length) ∨ (smallB c = true ∧ 1 ≤ ar.length ∧ ar.length ≤ 16) := by
    cases smallB c
    · exact .inl rfl
    · simp only [true_and, Bool.true_eq_false, false_or]; omega
  rcases L with L | ⟨L1, L2⟩ | ⟨L1, L2, L3⟩ | ⟨L1, L2, L3⟩
  all_goals
    go_enter Try.func7, Try.ntmps7
    go_wp2_with fail
    refine (awake_any _).mono ?_
    rintro e w1 ⟨rfl, hb⟩
    replace X := X.to hb
    clear hb
    have hr := X.r2
    go_wp2_with fail
    refine (small_any c _ hnm).mono ?_
    rintro e w2 ⟨rfl, hb⟩
    replace X := X.to hb
    clear hb hr
    have hr := X.r2
  · go_wp2
    go_ret
    exact ⟨rfl, X.1⟩
  · go_wp2
    go_ret
    exact ⟨rfl, X.1⟩
  · go_wp2
    go_ret
    exact ⟨rfl, X.1⟩
  go_wp2
  clear hr
  go_loopw [11, 12, 13, 43] (fun v11 v12 v13 v43 wr => ∃ k : Nat, k ≤ ar.length ∧ v43 = .int .i64 k ∧ v13 = .int .i64 (ar.take k).sum ∧
      Two w wr [(w.heap.size + 1, 25, #[.int .i64 s.wt, .int .i64 s.he]), (w.heap.size, 23, #[.string c.nm, .int .i64 c.se, .int .i64 c.we, .int .i64 c.ro, .int .i64 c.dr])]
        23 25 5 2 v11 k (flatC (alike c k)) v12 k (flatS (List.replicate k s)) ∧ Hid (∀ i (h : i < ar.length), i < k → 0 ≤ ar[i] ∧ ar[i] ≤ 67108864)) (fun _ _ _ v _ => ar.length - (intOf v).toNat)
  case atStart => exact ⟨0, Nat.zero_le _, rfl, rfl, ⟨X, by simpa [flatC, alike] using World.ownsRow_nil _ _ _ _, by simpa [flatS] using World.ownsRow_nil _ _ _ _, fun x hx => ⟨by simp [Value.ownBlock], by simp [Value.ownBlock]⟩⟩, hide (fun i h hi => by omega)⟩
  case round =>
    clear X
    obtain ⟨k, hk, rfl, rfl, Y, hno⟩ := hrel
    have hsum : 0 ≤ (ar.take k).sum ∧ (ar.take k).sum ≤ k * 67108864 := by
      have h := sum_small (ar := ar.take k) (fun i hi => by
        have hi' : i < ar.length := by simp at hi; omega
        have := hno.out i hi' (by simp at hi; omega)
        simpa using this) k (by simp; omega)
      rw [List.take_take, Nat.min_self] at h
      exact h
    by_cases hlt : k < ar.length
    · obtain ⟨b, off, rfl, hbl, hat⟩ := (HA.out.below Y.1.1).2 (by omega)
      have c0 := hat k hlt
      have eS := hide (sum_take ar k hlt)
      have HNO := hide (fun (h : 0 ≤ ar[k] ∧ ar[k] ≤ 67108864) i (h' : i < ar.length) (hi : i < k + 1) => (by
        by_cases e : i = k
        · subst e; exact h
        · exact hno.out i h' (by omega) : 0 ≤ ar[i] ∧ ar[i] ≤ 67108864))
      have hq := Y.1.r2
      clear hat hno
      generalize (ar.take k).sum = S at *
      generalize ar[k] = aa at *
      have a0 : aa < 0 ∨ (¬ aa < 0 ∧ 67108864 < aa) ∨ (0 ≤ aa ∧ aa ≤ 67108864) := by omega
      rcases a0 with a0 | ⟨a0, a1⟩ | ⟨a0, a1⟩
      · go_wp2
        go_ret
        exact ⟨rfl, Y.1.1⟩
      · go_wp2
        go_ret
        exact ⟨rfl, Y.1.1⟩
      · have B1 := Blk.new (wr.alloc (.cells #[.string c.nm, .int .i64 c.se, .int .i64 c.we, .int .i64 c.ro, .int .i64 c.dr] 23)) 5 #[.int .u8 107, .int .u8 (97 + (k : Int))]
        simp only [World.size_alloc] at B1
        have kc := kn_conv k (by omega) _ (wr.heap.size + 1) 2 (B1.cell 0) (B1.cell 1)
        have Y1 := ((Y.alloc #[.string (kn k), .int .i64 c.se, .int .i64 c.we, .int .i64 c.ro, .int .i64 c.dr] 23).alloc #[.int .u8 107, .int .u8 (97 + (k : Int))] 5).tail
        have HY := hide Y1
        clear B1 Y1
        go_wp2
        clear hq Y kc
        have hq := HY.out.1.r3
        obtain ⟨i0, hi0, hz0, hz1, hz2⟩ := info_parts sto_info
        obtain ⟨j0, hj0, hk0, hk1, hk2⟩ := info_parts cls_info
        generalize wr.heap.size = nb at *
        generalize ((wr.alloc _).alloc _) = W at *
        have C1 := HY.out.drew.alloc #[.string (kn k), .int .i64 c.se, .int .i64 c.we, .int .i64 c.ro, .int .i64 c.dr] 23
        have C12 := (HY.out.drew.alloc #[.string (kn k), .int .i64 c.se, .int .i64 c.we, .int .i64 c.ro, .int .i64 c.dr] 23).alloc #[.int .i64 s.wt, .int .i64 s.he] 25
        have C21 := (HY.out.drew.alloc #[.int .i64 s.wt, .int .i64 s.he] 25).alloc #[.string (kn k), .int .i64 c.se, .int .i64 c.we, .int .i64 c.ro, .int .i64 c.dr] 23
        simp only [World.size_alloc] at C12 C21
        replace C1 := hide C1
        replace C12 := hide C12
        replace C21 := hide C21
        go_region_held_law (fun w' => w'.cell? ⟨nb, 0, none⟩ = some (.string (kn k)) ∧ w'.cell? ⟨nb, 1, none⟩ = some (.int .i64 c.se) ∧ w'.cell? ⟨nb, 2, none⟩ = some (.int .i64 c.we) ∧ w'.cell? ⟨nb, 3, none⟩ = some (.int .i64 c.ro) ∧ w'.cell? ⟨nb, 4, none⟩ = some (.int .i64 c.dr) ∧
            w'.cell? ⟨w.heap.size + 1, 0, none⟩ = some (.int .i64 s.wt) ∧ w'.cell? ⟨w.heap.size + 1, 1, none⟩ = some (.int .i64 s.he))
          (first | exact two_keep (t1 := 23) (t2 := 25) HQ.out (by simp) (by simp) | exact two_keep (t1 := 23) (t2 := 25) HP.out (by simp) (by simp) | go_keep)
          (first
            | (refine C1.out.step1 (by decide) (C1.out.1.2 _ (List.mem_cons_self ..)) [.string (kn k), .int .i64 c.se, .int .i64 c.we, .int .i64 c.ro, .int .i64 c.dr] rfl rfl rfl (.tmp 64) (.tmp 66) 46 rfl j0 _ 48 Try.underlying46 hj0 hk0 hk1 hk2 rfl (by decide) rfl rfl (by simp [Value.oneCell']) (by unfold maxLen; omega) (by omega) ?_; intro v4 w4 HP; replace HP := hide HP)
            | (refine C12.out.step1 (by decide) (C12.out.1.2 _ (List.mem_cons_of_mem _ (List.mem_cons_self ..))) [.string (kn k), .int .i64 c.se, .int .i64 c.we, .int .i64 c.ro, .int .i64 c.dr] rfl rfl rfl (.tmp 64) (.tmp 66) 46 rfl j0 _ 48 Try.underlying46 hj0 hk0 hk1 hk2 rfl (by decide) rfl rfl (by simp [Value.oneCell']) (by unfold maxLen; omega) (by omega) ?_; intro v4 w4 HP; replace HP := hide HP)
            | (refine C21.out.step1 (by decide) (C21.out.1.2 _ (List.mem_cons_self ..)) [.string (kn k), .int .i64 c.se, .int .i64 c.we, .int .i64 c.ro, .int .i64 c.dr] rfl rfl rfl (.tmp 64) (.tmp 66) 46 rfl j0 _ 48 Try.underlying46 hj0 hk0 hk1 hk2 rfl (by decide) rfl rfl (by simp [Value.oneCell']) (by unfold maxLen; omega) (by omega) ?_; intro v4 w4 HP; replace HP := hide HP)
            | (refine (HP.out.alloc #[.int .i64 s.wt, .int .i64 s.he] 25).step2 (by decide) ((HP.out.alloc #[.int .i64 s.wt, .int .i64 s.he] 25).1.2 _ (List.mem_cons_self ..)) [.int .i64 s.wt, .int .i64 s.he] rfl rfl rfl (.tmp 68) (.tmp 70) 47 rfl i0 _ 16 Try.underlying47 hi0 hz0 hz1 hz2 rfl (by decide) rfl rfl (by simp [Value.oneCell']) (by unfold maxLen; omega) (by omega) ?_; intro v5 w5 HQ; replace HQ := hide HQ)
            | (refine HP.out.step2 (by decide) (HP.out.1.2 _ (List.mem_cons_self ..)) [.int .i64 s.wt, .int .i64 s.he] rfl rfl rfl (.tmp 68) (.tmp 70) 47 rfl i0 _ 16 Try.underlying47 hi0 hz0 hz1 hz2 rfl (by decide) rfl rfl (by simp [Value.oneCell']) (by unfold maxLen; omega) (by omega) ?_; intro v5 w5 HQ; replace HQ := hide HQ)
            | (refine HP.out.step2 (by decide) (HP.out.1.2 _ (List.mem_cons_of_mem _ (List.mem_cons_self ..))) [.int .i64 s.wt, .int .i64 s.he] rfl rfl rfl (.tmp 68) (.tmp 70) 47 rfl i0 _ 16 Try.underlying47 hi0 hz0 hz1 hz2 rfl (by decide) rfl rfl (by simp [Value.oneCell']) (by unfold maxLen; omega) (by omega) ?_; intro v5 w5 HQ; replace HQ := hide HQ))
        all_goals
          go_wp2
          go_roundw
          case rel => exact ⟨k + 1, by omega, by go_num, by rw [eS.out], by rw [alike_succ, flatC_append, List.replicate_succ', flatS_append]; exact HQ.out.tail.tail.tail, hide (HNO.out ⟨a0, a1⟩)⟩
          case measure => simp [intOf]; omega
    · have e : k = ar.length := by omega
      subst e
      rw [List.take_length] at hsum
      simp only [List.take_length]
      have hsm : smallA ar := fun i h => hno.out i h h
      obtain ⟨B1, p1, rfl⟩ := row_slice Y.2.1
      obtain ⟨B2, p2, rfl⟩ := row_slice Y.2.2.1
      have hl1 : (alike c ar.length).length = ar.length := alike_length c _
      have hl2 : (List.replicate ar.length s).length = ar.length := List.length_replicate
      obtain ⟨-, hC⟩ := ClsSl.of_row Y.2.1 (by rw [hl1]; unfold maxLen; omega) (fun i h => by rw [alike_at]; unfold maxLen; simp [cN, kn_size])
      obtain ⟨-, hS⟩ := StoSl.of_row Y.2.2.1 (by rw [hl2]; unfold maxLen; omega)
      have HSM := hide hsm
      have HC := hide hC
      have HS := hide hS
      have eE1 := hide (mixE_alike c s ar d t L2 L3 hsm)
      have eE2 := hide (mixE_one c s ar.sum d t hsum.1 (by omega))
      have M := fun W (h1 : ClsSl W B1 (alike c ar.length)) (h2 : IntSl W A ar) (h3 : StoSl W B2 (List.replicate ar.length s)) => mix_any (alike c ar.length) B1 p1 ar A cap (List.replicate ar.length s) B2 p2 d t W h1 h2 h3
      rw [hl1, hl2] at M
      have HM := hide M
      have X := Y.1
      have hq := X.r2
      clear hsm hC hS M Y hl1 hl2 hno
      go_wp2_with fail
      refine (HM.out _ HC.out (HA.out.below X.1) HS.out).mono ?_
      rintro e w3 ⟨hb, er, vol, T, xs, cp, rfl, hxs, -, her, hok, hbad⟩
      replace X := X.to hb
      replace HC := hide (HC.out.below hb)
      have HX := hide hxs
      have R1 := hide (And.intro her (And.intro hok hbad))
      clear hb hxs her hok hbad hq HM HS
      have hq := X.r2
      obtain ⟨b, off, rfl, hbl, hat⟩ := HC.out.2 (by rw [alike_length]; omega)
      obtain ⟨c0, c1, c2, c3, c4⟩ := hat 0 (by rw [alike_length]; omega)
      rw [alike_at] at c0 c1 c2 c3 c4
      simp only [Nat.zero_mul, Nat.add_zero] at c0 c1 c2 c3 c4
      have hne : (0 : Int) < (ar.length : Int) := by omega
      have hne0 : 0 < ar.length := by omega
      have hbl0 := hbl
      have HBX := hide X
      have HS7 := hide (show w3.cell? ⟨b, off, none⟩ = some (.string (cN c 0).nm) ∧ w3.cell? ⟨b, off + 1, none⟩ = some (.int .i64 (cN c 0).se) ∧ w3.cell? ⟨b, off + 2, none⟩ = some (.int .i64 (cN c 0).we) ∧ w3.cell? ⟨b, off + 3, none⟩ = some (.int .i64 (cN c 0).ro) ∧
            w3.cell? ⟨b, off + 4, none⟩ = some (.int .i64 (cN c 0).dr) ∧ w3.cell? ⟨w.heap.size + 1, 0, none⟩ = some (.int .i64 s.wt) ∧ w3.cell? ⟨w.heap.size + 1, 1, none⟩ = some (.int .i64 s.he) from ⟨c0, c1, c2, c3, c4, hq.1.1 0, hq.1.1 1⟩)
      clear hat
      go_wp2_with fail
      go_cut [20, 21, 22] (fun v20 v21 v22 wx => Below w3.heap.size w3 wx ∧ ∃ (er' vol' : Int) (T' : Option Addr) (ys : List Sto) (cp' : Nat), v20 = .slice T' ys.length cp' ∧ v21 = .int .i64 vol' ∧ v22 = .int .i64 er' ∧ StoSl wx T' ys ∧ Hid (er' = mixE [cN c 0] [ar.sum] [s] d t ∧
          (er' = 0 → ys = mixS d t [cN c 0] [s] ∧ vol' = mixV d [cN c 0] [ar.sum] [s]) ∧ (er' ≠ 0 → ys = [] ∧ vol' = 0)))
      case first =>
        go_region_held3 (fun w' => w'.cell? ⟨b, off, none⟩ = some (.string (cN c 0).nm) ∧ w'.cell? ⟨b, off + 1, none⟩ = some (.int .i64 (cN c 0).se) ∧ w'.cell? ⟨b, off + 2, none⟩ = some (.int .i64 (cN c 0).we) ∧ w'.cell? ⟨b, off + 3, none⟩ = some (.int .i64 (cN c 0).ro) ∧
            w'.cell? ⟨b, off + 4, none⟩ = some (.int .i64 (cN c 0).dr) ∧ w'.cell? ⟨w.heap.size + 1, 0, none⟩ = some (.int .i64 s.wt) ∧ w'.cell? ⟨w.heap.size + 1, 1, none⟩ = some (.int .i64 s.he)) (first | exact cells7_below hB4 HS7.out | exact cells7_below (by go_grown) HS7.out | go_keep)
          (first | (go_at_call 22; refine (mix_any [cN c 0] _ 1 [ar.sum] _ 1 [s] _ 1 d t _ (ClsSl.of_cells (by go_size) (by unfold maxLen; simp [cN, kn_size]) (by go_cell) (by go_cell) (by go_cell) (by go_cell) (by go_cell)) (IntSl.of_cells (by go_size) (by omega) (by go_cell)) (StoSl.of_cells (by go_size) (by go_cell) (by go_cell))).mono ?_; rintro e w4 ⟨hb, er', vol', T', ys, cp', rfl, hys, -, hr'⟩; replace hr' := hide hr'; have hB4 : Below w3.heap.size w3 w4 := below_via (by go_grown) (by go_size) hb))
        all_goals
          go_wp2_with fail
          go_meet
          exact ⟨hB4, er', vol', T', ys, cp', rfl, rfl, rfl, hys, hr'⟩
      case rest =>
        clear X hq c0 c1 c2 c3 c4 hbl hbl0
        obtain ⟨hB, er', vol', T', ys, cp', rfl, rfl, rfl, hys, R2⟩ := hcut
        have X := HBX.out.to hB
        replace HC := hide (HC.out.below hB)
        replace HX := hide (HX.out.below hB)
        replace HS7 := hide (cells7_below hB HS7.out)
        have HY := hide hys
        have ee : er' = er := R2.out.1.trans (eE2.out.trans (eE1.out.symm.trans R1.out.1.symm))
        subst ee
        clear HBX hB hys
        have hq := X.r2
        by_cases z : er' = 0
        rotate_left
        · obtain ⟨rfl, rfl⟩ := R1.out.2.2 z
          obtain ⟨rfl, rfl⟩ := R2.out.2.2 z
          have z1 : (er' == 0) = false := by simpa using z
          have z2 : (er' != 0) = true := by simpa using z
          clear z R1 R2 eE1 eE2
          go_wp2
          go_ret
          exact ⟨rfl, X.1⟩
        · subst z
          obtain ⟨f1, f2, f3, f4⟩ := mix0 (R1.out.1.trans eE1.out)
          obtain ⟨h1, h2⟩ := R1.out.2.1 rfl
          obtain ⟨h3, h4⟩ := R2.out.2.1 rfl
          have hr := rightB_cN c (i := 0) (by omega)
          rw [f1] at hr
          have hv : validSt (cN c 0) s = true := by rw [valid_eq, hr, holds_cN, f2]; rfl
          obtain ⟨hp, hh⟩ := validSt_iff hv
          have hd := inB_iff.1 f3
          have rb := runoff_bd hp hh hd.1 hd.2
          rw [run_cN] at rb
          have e1 : xs = List.replicate ar.length (stepS c s d t) := by
            have := mixS_alike c s d t (List.range ar.length)
            rw [List.length_range] at this
            rw [h1]; exact this
          have e2 : vol = ar.sum * runoff c s d := by
            have := mixV_alike c s d (List.range ar.length) ar (by simp)
            rw [List.length_range] at this
            rw [h2]; exact this
          have e3 : ys = [stepS c s d t] := h3
          have e4 : vol' = ar.sum * runoff c s d := by rw [h4]; simp [mixV, run_cN]
          have pb0 : 0 ≤ ar.sum * runoff c s d := Int.mul_nonneg hsum.1 rb.1
          have pb1 : ar.sum * runoff c s d ≤ 1073741824 * 4194304000 := Int.mul_le_mul (by omega) (by omega) rb.1 (by omega)
          have HST := hide (fun W => Step_any (cN c 0) s d t W (by unfold maxLen; simp [cN, kn_size]))
          have hout : Hid (outS (cN c 0) s d t = stepS c s d t ∧ outN (cN c 0) s d t = runoff c s d ∧ outE (cN c 0) s d t = 0) := by
            rcases out_cases (cN c 0) s d t with ⟨g, _⟩ | ⟨_, g, _⟩ | ⟨_, _, g, _⟩ | ⟨_, _, _, g1, g2, g3⟩
            · rw [hv] at g; cases g
            · rw [f3] at g; cases g
            · rw [f4] at g; cases g
            · exact ⟨g2, g3, g1⟩
          subst e1 e2 e3 e4
          clear h1 h2 h3 h4 R1 R2 eE1 eE2 hr hv hp hh f1 f2 f3 f4
          generalize stepS c s d t = v at *
          generalize runoff c s d = r at *
          rw [hout.out.1, hout.out.2.1, hout.out.2.2] at HST
          clear hout
          simp only [List.length_replicate, List.length_singleton]
          obtain ⟨c0, c1, c2, c3, c4, -, -⟩ := HS7.out
          have hbl := lt_of_cell c0
          have hz := IntWalk.i64_in (ar.sum * r) (by omega)
          have hz' := IntWalk.wrap64_in (ar.sum * r) (by omega)
          have HZ := hide (And.intro hz hz')
          have HXX := hide X
          clear hz hz' X
          go_wp2_with fail
          go_cut [23, 24, 25] (fun v23 v24 v25 wy => Below wc.heap.size wc wy ∧ ∃ b23 : Nat, v23 = .pointer (some ⟨b23, 0, none⟩) ∧ v24 = .int .i64 r ∧ v25 = .int .i64 0 ∧ Blk wy b23 25 #[.int .i64 v.wt, .int .i64 v.he])
          case first =>
            go_region_held3 (fun w' => w'.cell? ⟨b, off, none⟩ = some (.string (cN c 0).nm) ∧ w'.cell? ⟨b, off + 1, none⟩ = some (.int .i64 (cN c 0).se) ∧ w'.cell? ⟨b, off + 2, none⟩ = some (.int .i64 (cN c 0).we) ∧ w'.cell? ⟨b, off + 3, none⟩ = some (.int .i64 (cN c 0).ro) ∧
                w'.cell? ⟨b, off + 4, none⟩ = some (.int .i64 (cN c 0).dr) ∧ w'.cell? ⟨w.heap.size + 1, 0, none⟩ = some (.int .i64 s.wt) ∧ w'.cell? ⟨w.heap.size + 1, 1, none⟩ = some (.int .i64 s.he)) (first | exact cells7_below hB5 HS7.out | exact cells7_below (hB5.alloc hB5.size _) HS7.out | exact cells7_below (below_set (below_set hB5 (Nat.le_refl _) _) (Nat.le_refl _) _) HS7.out | exact cells7_below (by go_grown) HS7.out | go_keep)
              (first | (go_at_call 12; refine (HST.out _).mono ?_; rintro e w5 ⟨rfl, hb⟩; have hk3 := keeps hb; have hk4 := keeps_alloc hb; have hc3 := (below_cells hb).1; have hf3 := (below_cells hb).2; have hz3 := hb.size; have hB5 : Below wc.heap.size wc w5 := below_via (by go_grown) (by go_size) hb))
            · go_wp2_with fail
              go_meet
              exact ⟨hB5.alloc hB5.size _, w5.heap.size, rfl, rfl, rfl, Blk.new w5 _ _⟩
            · have BK := (((Blk.new wc 25 #[.int .i64 0, .int .i64 0]).drew.below hb (by simp)).set_ 0 (.int .i64 v.wt)).set_ 1 (.int .i64 v.he)
              go_wp2_with fail
              go_meet
              exact ⟨below_set (below_set hB5 (Nat.le_refl _) _) (Nat.le_refl _) _, wc.heap.size, rfl, rfl, rfl, BK⟩
          case rest =>
            clear c0 c1 c2 c3 c4 hq hbl HST HS7 HC
            obtain ⟨hB, b23, rfl, rfl, rfl, hblk⟩ := hcut
            have X := HXX.out.to hB
            replace HX := hide (HX.out.below hB)
            replace HY := hide (HY.out.below hB)
            clear HXX hB
            obtain ⟨b', off', rfl, hbl', hat'⟩ := HY.out.2 (by simp)
            obtain ⟨s0, s1⟩ := hat' 0 (by simp)
            simp only [Nat.zero_mul, Nat.add_zero, List.getElem_cons_zero] at s0 s1
            have y0 := hblk.cell 0
            have y1 := hblk.cell 1
            have y2 := hblk.lt
            obtain ⟨hz, hz'⟩ := HZ.out
            have HS4 := hide (And.intro s0 (And.intro s1 (And.intro y0 y1)))
            clear hat' HY HSM HA
            go_wp2_with fail
            go_region_held3 (fun w' => w'.cell? ⟨b', off', none⟩ = some (.int .i64 v.wt) ∧ w'.cell? ⟨b', off' + 1, none⟩ = some (.int .i64 v.he) ∧ w'.cell? ⟨b23, 0, none⟩ = some (.int .i64 v.wt) ∧ w'.cell? ⟨b23, 1, none⟩ = some (.int .i64 v.he)) (go_keep)
              (first | (go_at_call 23; refine (contS_no ar.length v _ cp b23 _ L3 (HX.out.below (by go_grown)) (by go_cell) (by go_cell)).mono ?_; rintro e w7 ⟨rfl, hb⟩; have hk3 := keeps hb))
            go_wp2
            go_ret
            exact ⟨rfl, (X.drew.to hb).1⟩
end Go.Proofs.Ytljaibbmceknfaa
