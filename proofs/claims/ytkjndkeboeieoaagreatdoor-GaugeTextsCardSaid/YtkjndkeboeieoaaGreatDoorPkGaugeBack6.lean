/- Parts of one proof, joined: The program's Text of a record of rain; nothing that was there is turned. (Printed by gen_ggtx.py.). The program's Text of a record in all cases. (Printed by gen_ggbk.py.). A row in the making that a variable's block holds, beside blocks of the call's own and blocks that are kept. The rules that the walk uses of six to ten blocks of its own. Words of texts: slices of strings that read as lists; strings.Split at one byte, strings.CutSuffix at a line's end: what each returns; nothing that was there is turned. -/
import Derived.Test.YtkjndkeboeieoaaGreatDoorPkGaugeBack4
import Derived.Test.YtkjndkeboeieoaaGreatDoorPkGaugeBack5
import Derived.Test.YtkjndkeboeieoaaGreatDoorPkGaugeBack2
import Derived.Deep.AppendLies
import Derived.RangeFuncOwn
import Derived.RangeFuncWrites
import Derived.Test.YtkjndkeboeieoaaGreatDoorPkGaugeBack1
import Derived.Test.YtkjndkeboeieoaaGreatDoorShelf4
namespace Go.Proofs.YtkjndkeboeieoaaGreatDoor
open Go Go.RowKit Go.Shelf

attribute [local go_sem] Oper.semAt_some

theorem bwb32_any (w0 W : World) (b : Nat) (acc : List UInt8) (h : BldW w0 W b acc) (hl : acc.length + 1 ≤ 140737488355328) : Calls Tryz.prog 27 #[.pointer (some ⟨b, 0, none⟩), .int .u8 32] W (BlPost w0 b (acc ++ [32]) .nilIface W) := bwb_any w0 W b acc 32 h hl
theorem bwb45_any (w0 W : World) (b : Nat) (acc : List UInt8) (h : BldW w0 W b acc) (hl : acc.length + 1 ≤ 140737488355328) : Calls Tryz.prog 27 #[.pointer (some ⟨b, 0, none⟩), .int .u8 45] W (BlPost w0 b (acc ++ [45]) .nilIface W) := bwb_any w0 W b acc 45 h hl
theorem bwb10_any (w0 W : World) (b : Nat) (acc : List UInt8) (h : BldW w0 W b acc) (hl : acc.length + 1 ≤ 140737488355328) : Calls Tryz.prog 27 #[.pointer (some ⟨b, 0, none⟩), .int .u8 10] W (BlPost w0 b (acc ++ [10]) .nilIface W) := bwb_any w0 W b acc 10 h hl
theorem chunk12_in (n : Nat) (A : Option Addr) (len cap : Nat) (w : World) :
    CallsIn Fence.wide n Tryz.prog 26 #[.slice A len cap, .int .i64 12] w fun e w' => e = .returned (.func (.func 54) #[] #[.pointer (some ⟨w.heap.size, 0, none⟩), .pointer (some ⟨w.heap.size + 1, 0, none⟩)]) ∧ w' = (w.alloc (.cells #[.slice A len cap] 22)).alloc (.cells #[.int .i64 12] 3) := chunk_in n A len cap 12 (by omega) w
set_option maxRecDepth 100000 in
set_option maxHeartbeats 1000000 in
theorem ggtext_bad (s : Ser) (a : SerA) (w : World) (hs : SerSl w s a) (hv : vS s = false) : Calls Tryz.prog 7 #[s.val a] w (RetV (.tuple #[strV [], .int .i64 1]) w) := by
  have V := hide (fun W (h : SerSl W s a) => gvalid_any s a W h)
  rw [hv] at V
  have HS := hide hs
  have X := (Own.start w).alloc (s.cells a) 24
  clear hs hv
  have hr := X.r1
  go_enter Tryz.func7, Tryz.ntmps7
  go_wp2_with fail
  refine (V.out _ (HS.out.below X.1)).mono ?_
  rintro e w1 ⟨rfl, hb⟩
  replace X := X.to hb
  clear hb hr
  go_wp2
  go_ret2
  exact ⟨rfl, X.1⟩
set_option maxRecDepth 100000 in
set_option maxHeartbeats 1000000 in
theorem ggtext_no (s : Ser) (a : SerA) (w : World) (hs : SerSl w s a) (hv : vS s = true) (hn : s.fr / 86400 < -730119) : Calls Tryz.prog 7 #[s.val a] w (RetV (.tuple #[strV [], .int .i64 20]) w) := by
  have V := hide (fun W (h : SerSl W s a) => gvalid_any s a W h)
  rw [hv] at V
  have v := vS_iff.1 hv
  have T := hide (fun W => cktext_no s.fr W v.fr.1 v.fr.2 hn)
  have HS := hide hs
  have X := (Own.start w).alloc (s.cells a) 24
  clear hs hv v hn
  have hr := X.r1
  go_enter Tryz.func7, Tryz.ntmps7
  go_wp2_with fail
  refine (V.out _ (HS.out.below X.1)).mono ?_
  rintro e w1 ⟨rfl, hb⟩
  replace X := X.to hb
  clear hb hr
  have hr := X.r1
  go_wp2_with fail
  refine (T.out _).mono ?_
  rintro e w2 ⟨rfl, hb⟩
  replace X := X.to hb
  clear hb hr
  go_wp2
  go_ret2
  exact ⟨rfl, X.1⟩
set_option maxRecDepth 100000 in
set_option maxHeartbeats 4000000 in
theorem ggtext_in (s : Ser) (a : SerA) (y mo d : Nat) (w : World) (hs : SerSl w s a) (hv : vS s = true) (hD : IsD (s.fr / 86400) y mo d) (ht : TxtW w) : Calls Tryz.prog 7 #[s.val a] w (RetV (.tuple #[strV (txG (hdT y mo d (s.fr % 86400).toNat s.st) s.ds), .int .i64 0]) w) := by
  have V := hide (fun W (h : SerSl W s a) => gvalid_any s a W h)
  rw [hv] at V
  have v := vS_iff.1 hv
  have T := hide (fun W h => cktext_any s.fr y mo d W v.fr.1 v.fr.2 hD h)
  have IT := hide (fun W h => itoaL s.st W (by have := v.st; omega) (by have := v.st; omega) h)
  have dep := hide (vS_dep hv)
  have hle := v.le
  have HT := hide ht
  have ckl : (ckT y mo d (s.fr % 86400).toNat).length ≤ 19 := by rw [ckT_len]; exact Nat.le_refl _
  have itl := Lib.itoa_length_le s.st (by have := v.st; omega) (by have := v.st; omega)
  have HH : Hid (hdT y mo d (s.fr % 86400).toNat s.st = [114, 97, 105, 110, 32] ++ (ckT y mo d (s.fr % 86400).toNat ++ ([32, 115, 116, 101, 112, 32] ++ Lib.itoa s.st))) := hide rfl
  clear hv v hD ht
  obtain ⟨fr, st, l⟩ := s
  obtain ⟨A, c⟩ := a
  have hcap : l.length ≤ c := hs.2.1
  have HS := hide hs
  clear hs
  show Calls Tryz.prog 7 #[.agg #[.int .i64 fr, .int .i64 st, .slice A l.length c]] w (RetV (.tuple #[strV (txG (hdT y mo d (fr % 86400).toNat st) l), .int .i64 0]) w)
  dsimp only at T IT dep hle ckl itl HH
  generalize hdT y mo d (fr % 86400).toNat st = h at *
  generalize ckT y mo d (fr % 86400).toNat = ck at *
  generalize Lib.itoa st = it at *
  obtain ⟨L1, hL1⟩ : ∃ L1, [114, 97, 105, 110, 32] ++ ck = L1 := ⟨_, rfl⟩
  obtain ⟨L2, hL2⟩ : ∃ L2, L1 ++ [32, 115, 116, 101, 112, 32] = L2 := ⟨_, rfl⟩
  obtain ⟨L3, hL3⟩ : ∃ L3, L2 ++ it = L3 := ⟨_, rfl⟩
  obtain ⟨L4, hL4⟩ : ∃ L4, L3 ++ [10] = L4 := ⟨_, rfl⟩
  have dL1 : (⟨#[114, 97, 105, 110, 32]⟩ : ByteArray) ++ ⟨ck.toArray⟩ = ⟨L1.toArray⟩ := (ba_append [114, 97, 105, 110, 32] ck).trans (by rw [hL1])
  have eL1 : L1.length = 5 + ck.length := by rw [← hL1]; simp <;> omega
  have mL1 : ¬ 9223372036854775807 < 5 + ck.length := by omega
  have dL2 : (⟨L1.toArray⟩ : ByteArray) ++ ⟨#[32, 115, 116, 101, 112, 32]⟩ = ⟨L2.toArray⟩ := (ba_append L1 [32, 115, 116, 101, 112, 32]).trans (by rw [hL2])
  have eL2 : L2.length = L1.length + 6 := by rw [← hL2]; simp <;> omega
  have mL2 : ¬ 9223372036854775807 < L1.length + 6 := by omega
  have dL3 : (⟨L2.toArray⟩ : ByteArray) ++ ⟨it.toArray⟩ = ⟨L3.toArray⟩ := (ba_append L2 it).trans (by rw [hL3])
  have eL3 : L3.length = L2.length + it.length := by rw [← hL3]; simp <;> omega
  have mL3 : ¬ 9223372036854775807 < L2.length + it.length := by omega
  have dL4 : (⟨L3.toArray⟩ : ByteArray) ++ ⟨#[10]⟩ = ⟨L4.toArray⟩ := (ba_append L3 [10]).trans (by rw [hL4])
  have eL4 : L4.length = L3.length + 1 := by rw [← hL4]; simp <;> omega
  have mL4 : ¬ 9223372036854775807 < L3.length + 1 := by omega
  have H4 : Hid (chT h l ([] : List (Fin ((l.length + 11) / 12))) = L4) := hide (by rw [chT_nil, HH.out, ← hL4, ← hL3, ← hL2, ← hL1]; simp)
  have lh : h.length ≤ 60 := by rw [HH.out]; simp only [List.length_append, List.length_cons, List.length_nil]; omega
  have l4b : L4.length ≤ 60 := by omega
  clear hL1 hL2 hL3 hL4 eL1 eL2 eL3 eL4 HH ckl itl
  have X := (Own.start w).alloc #[.int .i64 fr, .int .i64 st, .slice A l.length c] 24
  have hr := X.r1
  refine (callsIn_wide (n := 4)).1 ?_
  refine callsIn_of_wp_marks Tryz.func7 rfl trivial ?_ rfl
  simp only [Tryz.ntmps7, List.size_toArray, List.length_cons, List.length_nil, Nat.reduceAdd, Nat.reduceSub, Array.replicate_succ, Array.replicate_zero, List.push_toArray, List.append_toArray, List.nil_append, List.cons_append]
  gi_wp2_with fail
  refine ⟨trivial, (callsIn_wide.2 (V.out _ (HS.out.below X.1))).mono ?_⟩
  rintro e w1 ⟨rfl, hb⟩
  replace X := X.to hb
  clear hb hr V
  have hr := X.r1
  gi_wp2_with fail
  refine ⟨trivial, (callsIn_wide.2 (T.out _ (HT.out.below X.1))).mono ?_⟩
  rintro e w2 ⟨rfl, hb⟩
  replace X := X.to hb
  clear hb hr T
  have B0 := hide (BldW.start X.1)
  have X2 := X.alloc #[.pointer none, .slice none 0 0] 59
  have hr := X2.r2
  have bx : w.heap.size < w2.heap.size := X.r1.2.2
  have HT2 := hide (HT.out.below X2.1)
  have hX2 := hide X2.tail
  gi_wp2_with fail
  refine ⟨trivial, (callsIn_wide.2 (IT.out _ HT2.out)).mono ?_⟩
  rintro e w3 ⟨rfl, hb⟩
  have B1 := hide (B0.out.to hb)
  have X3 := hX2.out.to hb
  have bz : w2.heap.size < w3.heap.size := by have := hb.size; simp at this; omega
  clear hb hr IT HT2 hX2 X2 B0 X
  have hr := X3.r1
  have WS := hide (bws_any w w3 w2.heap.size [] L4 B1.out (by simp; omega))
  rw [List.nil_append] at WS
  gi_wp2_with fail
  refine ⟨trivial, (callsIn_wide.2 WS.out).mono ?_⟩
  rintro e w4 ⟨rfl, hB, hb, hk⟩
  have X4 := hide (X3.others hb hk (fun z hz => by
    simp only [List.mem_cons, List.not_mem_nil, or_false] at hz
    subst hz
    exact ⟨by show w.heap.size ≠ w2.heap.size; omega, by show (24 : TypeId) ≠ 5; decide⟩))
  have HB := hide hB
  have bz4 : w2.heap.size < w4.heap.size := Nat.lt_of_lt_of_le bz hb.size
  clear hB hb hk hr WS B1 X3
  have hr := X4.out.r1
  gi_wp2_with fail
  refine ⟨trivial, (chunk12_in 3 A l.length c _).mono ?_⟩
  rintro e w5 ⟨rfl, rfl⟩
  have Z := (HB.out.alloc (.cells #[.slice A l.length c] 22)).alloc (.cells #[.int .i64 12] 3)
  have ZX := ((X4.out.alloc #[.slice A l.length c] 22).alloc #[.int .i64 12] 3)
  simp only [World.size_alloc] at ZX
  have bS := ZX.2 (w4.heap.size, 22, #[.slice A l.length c]) (by simp)
  have bN := ZX.2 (w4.heap.size + 1, 3, #[.int .i64 12]) (by simp)
  have ZB := ZX.1
  clear hr ZX X4 HB
  generalize hW : (w4.alloc (.cells #[.slice A l.length c] 22)).alloc (.cells #[.int .i64 12] 3) = W at *
  have hWs : W.heap.size = w4.heap.size + 2 := by rw [← hW]; simp
  have Y0 := hide (show Bt w W W.heap.size w2.heap.size w4.heap.size (w4.heap.size + 1) #[.slice A l.length c] #[.int .i64 12] L4 from
    ⟨Z, ⟨Nat.le_refl _, ZB.size⟩, ⟨bS, by omega, by omega⟩, ⟨bN, by omega, by omega⟩⟩)
  have cS := bS.cell 0
  have cN := bN.cell 0
  have lW : w.heap.size ≤ w4.heap.size := by omega
  have bSl := bS.lt
  clear hW Z ZB bS bN
  have hAe : ∃ b off, 0 < (l.length + 11) / 12 → A = some ⟨b, off, none⟩ ∧ b < w.heap.size ∧ ∀ i, i < l.length → w.cell? ⟨b, off + i, none⟩ = some (.int .i64 (l.getD i 0)) := by
    by_cases hm : 0 < l.length
    · obtain ⟨b, off, e, hb, hat⟩ := HS.out.1.atg hm
      exact ⟨b, off, fun _ => ⟨e, hb, hat⟩⟩
    · exact ⟨0, 0, fun h => absurd h (by omega)⟩
  obtain ⟨b, off, hA⟩ := hAe
  have bwW : w2.heap.size < W.heap.size := by omega
  gi_wp2
  refine' wpIn_rangeFunc_ownG rfl (by decide) (gf := 54) (lb := #[.pointer (some ⟨w4.heap.size, 0, none⟩), .pointer (some ⟨w4.heap.size + 1, 0, none⟩)]) rfl trivial (enters_of Tryz.func54 (by kernel_rfl) rfl)
    (chunkK_stops 3 (by decide) w4.heap.size (w4.heap.size + 1) b off l.length c 12 ((l.length + 11) / 12) A (fun h => (hA h).1) (fun j => by omega) (by omega) hcap hle (by omega) W cS cN) KpB.t (KpB.b (by omega) (by omega)) (Below.refl _ _) (fun _ => rfl)
    (fun pre W' => Bt w W' W.heap.size w2.heap.size w4.heap.size (w4.heap.size + 1) #[.slice A l.length c] #[.int .i64 12] (chT h l pre))
    (fun _ _ _ => False)
    (fun _ A B row hs hg hr => hs.turn hg hr)
    (fun _ _ _ _ _ hs _ _ => hs)
    (by rw [H4.out]; exact Y0.out)
    _ ?assign ?body ?done ?stop
  case assign =>
    intro l x W K hK
    gi_wp2
    exact hK
  case body =>
    rintro l' pre x W' Y hlt
    obtain ⟨hAeq, hbl, hat⟩ := hA (Nat.lt_of_le_of_lt (Nat.zero_le _) x.2)
    clear hAeq hA
    have hxl : x.1 * 12 < l.length := by have := x.2; omega
    have PL : (part l 12 x.1).length = min 12 (l.length - x.1 * 12) := by simp [part]
    have cP : ∀ j, j < min 12 (l.length - x.1 * 12) → W'.cell? ⟨b, off + x.1 * 12 + j, none⟩ = some (.int .i64 ((part l 12 x.1).getD j 0)) := fun j hj => by
      rw [part_at (by omega), Nat.add_assoc]
      exact (Y.bld.2.cell (p := ⟨b, off + (x.1 * 12 + j), none⟩) hbl).trans (hat (x.1 * 12 + j) (by omega))
    have dP := hide (fun n hn => dep.out n (part_sub l 12 x.1 n hn))
    dsimp only [chEncK]
    have E1 := hide (chT_snoc h l pre x)
    have la := chT_len (h := h) (m := (l.length + 11) / 12) pre dep.out
    have acl : (chT h l pre).length ≤ 200000 := by omega
    generalize chT h l pre = acc at *
    generalize part l 12 x.1 = P at *
    generalize off + x.1 * 12 = O at *
    obtain ⟨en, hen⟩ : ∃ en, en = min 12 (l.length - x.1 * 12) := ⟨_, rfl⟩
    rw [← hen] at PL cP ⊢
    have en12 : en ≤ 12 := by omega
    have CP := hide cP
    have YH := hide Y
    have hP1 : P.length ≤ en := by omega
    have hP2 : en ≤ P.length := by omega
    have LP := hide (fun j => lnG_len (P.take j) (fun n hn => dP.out n (List.mem_of_mem_take hn)))
    clear hen cP Y la PL hxl hat cS cN
    gi_wp2
    gi_loopw [8, 9, 37] (fun v8 v9 v37 wr => ∃ j : Nat, j ≤ en ∧ v37 = .int .i64 (j : Int) ∧ Hid (Bt w wr W.heap.size w2.heap.size w4.heap.size (w4.heap.size + 1) #[.slice A l.length c] #[.int .i64 12] (acc ++ lnG (P.take j))) ∧ Hid (KeepsOthers W' wr)) (fun _ _ v37 _ => en - (intOf v37).toNat)
    case atStart => exact ⟨0, Nat.zero_le _, rfl, hide (by rw [List.take_zero, show lnG [] = [] from rfl, List.append_nil]; exact YH.out), hide (KeepsOthers.refl _)⟩
    case round =>
      obtain ⟨j, hj, rfl, HB, KO⟩ := hrel
      have lj := LP.out j
      have lj2 : (lnG (P.take j)).length ≤ 300 := by rw [List.length_take] at lj; omega
      by_cases hlt2 : j < en
      · have c1 := (HB.out.bld.2.cell (p := ⟨b, O + j, none⟩) hbl).trans ((YH.out.bld.2.cell (p := ⟨b, O + j, none⟩) hbl).symm.trans (CP.out j hlt2))
        have dn := dP.out (P.getD j 0) (by rw [List.getD_eq_getElem?_getD, List.getElem?_eq_getElem (by omega), Option.getD_some]; exact List.getElem_mem _)
        have EXT := hide (lnG_take (r := P) (j := j) (by omega))
        have d0 := dn.1
        have d1 := dn.2
        clear lj dn CP
        have wl := wdT_len d0 d1
        have IT := hide (fun W h => itoaL (P.getD j 0) W (by omega) (by omega) h)
        have WD1 : Hid (P.getD j 0 = -1 → wdT (P.getD j 0) = [45]) := hide (fun e => by rw [e]; rfl)
        have WD2 : Hid (¬ P.getD j 0 = -1 → wdT (P.getD j 0) = Lib.itoa (P.getD j 0)) := hide (fun e => by unfold wdT; rw [if_neg e])
        generalize P.getD j 0 = d at *
        generalize hz : lnG (P.take (j + 1)) = z1 at *
        have j1 : j + 1 ≤ en := hlt2
        by_cases hd : d = -1
        · have wd := WD1.out hd
          rw [wd] at EXT
          have q1 : (d == -1) = true := beq_iff_eq.2 hd
          clear WD1 WD2 wl IT hd d0 d1 wd
          by_cases hj0 : j = 0
          · have q2 : decide ((0 : Int) < (j : Int)) = false := decide_eq_false (by omega)
            have q3 : decide (0 < j) = false := decide_eq_false (by omega)
            have EX : Hid (acc ++ z1 = acc ++ lnG (P.take j) ++ [45]) := hide (by rw [EXT.out, if_pos hj0, hj0, List.take_zero, show lnG [] = [] from rfl]; simp)
            clear EXT hj0
            rw [← hz] at EX
            gi_wp2_with fail
            refine ⟨trivial, (CallsIn.inRound l' (callsIn_wide.2 (bwb45_any w wr w2.heap.size _ HB.out.bld (by simp <;> omega)))).mono ?_⟩
            rintro e w7 ⟨rfl, hB, hb, hk⟩
            have Yw7 := hide (HB.out.put hB hb hk)
            have Kw7 := hide (KO.out.trans (HB.out.others hb hk))
            clear hB hb hk HB KO
            gi_wp2
            go_roundw
            case rel => exact ⟨j + 1, by omega, by go_num, hide (by rw [EX.out]; first | exact Yw7.out | (rw [List.append_assoc] at Yw7; exact Yw7.out) | (have Q := Yw7.out; simp only [List.append_assoc] at Q ⊢; exact Q)), Kw7⟩
            case measure => simp [intOf]; omega
          · have q2 : decide ((0 : Int) < (j : Int)) = true := decide_eq_true (by omega)
            have q3 : decide (0 < j) = true := decide_eq_true (by omega)
            have EX : Hid (acc ++ z1 = acc ++ lnG (P.take j) ++ [32] ++ [45]) := hide (by rw [EXT.out, if_neg hj0]; simp)
            clear EXT hj0
            rw [← hz] at EX
            gi_wp2_with fail
            refine ⟨trivial, (CallsIn.inRound l' (callsIn_wide.2 (bwb32_any w wr w2.heap.size _ HB.out.bld (by rw [List.length_append]; omega)))).mono ?_⟩
            rintro e w6 ⟨rfl, hB, hb, hk⟩
            have Yw6 := hide (HB.out.put hB hb hk)
            have Kw6 := hide (KO.out.trans (HB.out.others hb hk))
            clear hB hb hk HB KO
            gi_wp2_with fail
            refine ⟨trivial, (CallsIn.inRound l' (callsIn_wide.2 (bwb45_any w w6 w2.heap.size _ Yw6.out.bld (by simp <;> omega)))).mono ?_⟩
            rintro e w7 ⟨rfl, hB, hb, hk⟩
            have Yw7 := hide (Yw6.out.put hB hb hk)
            have Kw7 := hide (Kw6.out.trans (Yw6.out.others hb hk))
            clear hB hb hk Yw6 Kw6
            gi_wp2
            go_roundw
            case rel => exact ⟨j + 1, by omega, by go_num, hide (by rw [EX.out]; first | exact Yw7.out | (rw [List.append_assoc] at Yw7; exact Yw7.out) | (have Q := Yw7.out; simp only [List.append_assoc] at Q ⊢; exact Q)), Kw7⟩
            case measure => simp [intOf]; omega
        · have wd := WD2.out hd
          rw [wd] at EXT wl
          have q1 : (d == -1) = false := beq_eq_false_iff_ne.2 hd
          clear WD1 WD2 hd d0 d1 wd
          generalize Lib.itoa d = it2 at *
          by_cases hj0 : j = 0
          · have q2 : decide ((0 : Int) < (j : Int)) = false := decide_eq_false (by omega)
            have q3 : decide (0 < j) = false := decide_eq_false (by omega)
            have EX : Hid (acc ++ z1 = acc ++ lnG (P.take j) ++ it2) := hide (by rw [EXT.out, if_pos hj0, hj0, List.take_zero, show lnG [] = [] from rfl]; simp)
            clear EXT hj0
            rw [← hz] at EX
            gi_wp2_with fail
            refine ⟨trivial, (CallsIn.inRound l' (callsIn_wide.2 (IT.out _ (HT.out.below HB.out.bld.2)))).mono ?_⟩
            rintro e w8 ⟨rfl, hb⟩
            have Yw8 := hide (HB.out.to hb)
            have Kw8 := hide (KO.out.trans (others_below hb))
            clear hb HB KO
            gi_wp2_with fail
            refine ⟨trivial, (CallsIn.inRound l' (callsIn_wide.2 (bws_any w w8 w2.heap.size _ it2 Yw8.out.bld (by simp <;> omega)))).mono ?_⟩
            rintro e w7 ⟨rfl, hB, hb, hk⟩
            have Yw7 := hide (Yw8.out.put hB hb hk)
            have Kw7 := hide (Kw8.out.trans (Yw8.out.others hb hk))
            clear hB hb hk Yw8 Kw8
            gi_wp2
            go_roundw
            case rel => exact ⟨j + 1, by omega, by go_num, hide (by rw [EX.out]; first | exact Yw7.out | (rw [List.append_assoc] at Yw7; exact Yw7.out) | (have Q := Yw7.out; simp only [List.append_assoc] at Q ⊢; exact Q)), Kw7⟩
            case measure => simp [intOf]; omega
          · have q2 : decide ((0 : Int) < (j : Int)) = true := decide_eq_true (by omega)
            have q3 : decide (0 < j) = true := decide_eq_true (by omega)
            have EX : Hid (acc ++ z1 = acc ++ lnG (P.take j) ++ [32] ++ it2) := hide (by rw [EXT.out, if_neg hj0]; simp)
            clear EXT hj0
            rw [← hz] at EX
            gi_wp2_with fail
            refine ⟨trivial, (CallsIn.inRound l' (callsIn_wide.2 (bwb32_any w wr w2.heap.size _ HB.out.bld (by rw [List.length_append]; omega)))).mono ?_⟩
            rintro e w6 ⟨rfl, hB, hb, hk⟩
            have Yw6 := hide (HB.out.put hB hb hk)
            have Kw6 := hide (KO.out.trans (HB.out.others hb hk))
            clear hB hb hk HB KO
            gi_wp2_with fail
            refine ⟨trivial, (CallsIn.inRound l' (callsIn_wide.2 (IT.out _ (HT.out.below Yw6.out.bld.2)))).mono ?_⟩
            rintro e w8 ⟨rfl, hb⟩
            have Yw8 := hide (Yw6.out.to hb)
            have Kw8 := hide (Kw6.out.trans (others_below hb))
            clear hb Yw6 Kw6
            gi_wp2_with fail
            refine ⟨trivial, (CallsIn.inRound l' (callsIn_wide.2 (bws_any w w8 w2.heap.size _ it2 Yw8.out.bld (by simp <;> omega)))).mono ?_⟩
            rintro e w7 ⟨rfl, hB, hb, hk⟩
            have Yw7 := hide (Yw8.out.put hB hb hk)
            have Kw7 := hide (Kw8.out.trans (Yw8.out.others hb hk))
            clear hB hb hk Yw8 Kw8
            gi_wp2
            go_roundw
            case rel => exact ⟨j + 1, by omega, by go_num, hide (by rw [EX.out]; first | exact Yw7.out | (rw [List.append_assoc] at Yw7; exact Yw7.out) | (have Q := Yw7.out; simp only [List.append_assoc] at Q ⊢; exact Q)), Kw7⟩
            case measure => simp [intOf]; omega
      · obtain rfl : j = en := by omega
        rw [List.take_of_length_le hP1] at HB lj2
        gi_wp2_with fail
        refine ⟨trivial, (CallsIn.inRound l' (callsIn_wide.2 (bwb10_any w wr w2.heap.size _ HB.out.bld (by simp <;> omega)))).mono ?_⟩
        rintro e w7 ⟨rfl, hB, hb, hk⟩
        have Yw7 := hide (HB.out.put hB hb hk)
        have Kw7 := hide (KO.out.trans (HB.out.others hb hk))
        clear hB hb hk 
        gi_wp2
        exact ⟨Kw7.out.from _, YH.out.kp Yw7.out, by dsimp only; rw [E1.out]; exact Yw7.out⟩
  case done =>
    rintro D2 ys W2 hD hys Y hK
    rw [chT_end rfl hys] at Y
    have YH := hide Y
    clear Y cS cN
    gi_wp2_with fail
    refine ⟨trivial, (callsIn_wide.2 (bst_any w W2 w2.heap.size (txG h l) YH.out.bld)).mono ?_⟩
    rintro e w9 ⟨rfl, hB, hb, hk⟩
    have hK9 := (YH.out.others hb hk).same D2 _ hK rfl
    have HZ := hide (hB.2.grown (grownBy_putObj' w9 D2 (.deferred none)) hB.2.size (fun k hk => by injection hk with hk; omega))
    clear hB hb hk
    gi_wp2
    refine ⟨by simp, .inl ⟨_, _, rfl, run_takeDeferred hK9, ?_⟩⟩
    refine ⟨.tuple #[strV (txG h l), .int .i64 0], ?_, ⟨rfl, HZ.out⟩⟩
    simp [results, Tryz.results7, go_sem]
  case stop =>
    rintro D2 c2 pre W2 _ _ h _
    exact h.elim
end Go.Proofs.YtkjndkeboeieoaaGreatDoor

namespace Go.Proofs.YtkjndkeboeieoaaGreatDoor
open Go Go.RowKit

/-- what Text returns: the text, and an error number -/
def GtRel (s : Ser) (t : List UInt8) (er : Int) : Prop :=
  (vS s = false ∧ t = [] ∧ er = 1) ∨ (vS s = true ∧ s.fr / 86400 < -730119 ∧ t = [] ∧ er = 20) ∨ (vS s = true ∧ er = 0 ∧ ∃ y m d, IsD (s.fr / 86400) y m d ∧ t = txG (hdT y m d (s.fr % 86400).toNat s.st) s.ds)
theorem ggtext_cases (s : Ser) (a : SerA) : ∃ t er, GtRel s t er ∧ ∀ W, SerSl W s a → TxtW W → Calls Tryz.prog 7 #[s.val a] W (RetV (.tuple #[strV t, .int .i64 er]) W) := by
  rcases Bool.eq_false_or_eq_true (vS s) with hv | hv
  · by_cases hn : s.fr / 86400 < -730119
    · exact ⟨[], 20, .inr (.inl ⟨hv, hn, rfl, rfl⟩), fun W h _ => ggtext_no s a W h hv hn⟩
    · have v := vS_iff.1 hv
      obtain ⟨y, m, d, hD⟩ := dat_ex (n := s.fr / 86400) (by omega) (by have := v.fr; omega)
      exact ⟨_, 0, .inr (.inr ⟨hv, rfl, y, m, d, hD, rfl⟩), fun W h ht => ggtext_in s a y m d W h hv hD ht⟩
  · exact ⟨[], 1, .inl ⟨hv, rfl, rfl⟩, fun W h _ => ggtext_bad s a W h hv⟩
/-- Text's text is read as the record -/
theorem GtRel.back {s : Ser} {t : List UInt8} (h : GtRel s t 0) (hl : s.ds.length ≤ 10000) : vS s = true ∧ prG t = (s, 0, 0) ∧ t.length ≤ 200000 := by
  rcases h with ⟨_, _, h⟩ | ⟨_, _, _, h⟩ | ⟨hv, _, y, m, d, hD, rfl⟩
  · cases h
  · cases h
  · have v := vS_iff.1 hv
    refine ⟨hv, readG hv hD hl, ?_⟩
    have len := tkL_len s.ds 0 (vS_dep hv)
    have hlen := hdT_len (y := y) (m := m) (d := d) (s := (s.fr % 86400).toNat) (show 0 ≤ s.st by have := v.st.1; omega) (show s.st < 1000000000000000 by have := v.st.2; omega)
    unfold txG
    rw [List.length_append]
    omega
end Go.Proofs.YtkjndkeboeieoaaGreatDoor

namespace Go.Proofs.YtkjndkeboeieoaaGreatDoor
open Go Go.RowKit

theorem row_monoG {w : World} {base base' : Nat} {e : TypeId} {size : Nat} {v : Value} {n : Nat} {xs : List Value} (h : w.ownsRow base e size v n xs) (hb : base' ≤ base) : w.ownsRow base' e size v n xs :=
  ⟨h.1, h.2.imp id fun ⟨g, cap, cur, h1, h2, h3⟩ => ⟨g, cap, cur, h1, Nat.le_trans hb h2, h3⟩⟩
theorem row_anyG {w : World} {base : Nat} {e : TypeId} {size n : Nat} {v : Value} {xs : List Value} (h : w.ownsRow base e size v n xs) : ∃ A c, v = .slice A n c ∧ n ≤ c := by
  rcases h.2 with ⟨rfl, h0⟩ | ⟨g, cap, _, rfl, _, _, h2, _⟩
  · subst h0; exact ⟨none, 0, rfl, Nat.le_refl _⟩
  · exact ⟨_, cap, rfl, h2⟩
/-- the variable's block o holds the slice v, whose row grows beyond B2 -/
structure Grw (e tv : TypeId) (sz : Nat) (w wr : World) (B2 o : Nat) (R : List (Nat × TypeId × Array Value)) (v : Value) (n : Nat) (xs : List Value) : Prop where
  own : Own w wr ((o, tv, #[v]) :: R)
  row : wr.ownsRow B2 e sz v n xs
  b2 : B2 ≤ wr.heap.size ∧ w.heap.size ≤ B2 ∧ w.heap.size ≤ o
  lt : o < B2 ∧ ∀ x ∈ R, x.1 < B2
  ty : e ≠ tv ∧ ∀ x ∈ R, e ≠ x.2.1
  ne : ∀ x ∈ R, x.1 ≠ o
section
variable {e tv : TypeId} {sz : Nat} {w wr w' : World} {B2 o : Nat} {R : List (Nat × TypeId × Array Value)} {v : Value} {n : Nat} {xs : List Value}
theorem Grw.to (h : Grw e tv sz w wr B2 o R v n xs) (hb : Below wr.heap.size wr w') : Grw e tv sz w w' B2 o R v n xs :=
  ⟨h.own.to hb, row_below h.row hb, ⟨Nat.le_trans h.b2.1 hb.size, h.b2.2⟩, h.lt, h.ty, h.ne⟩
theorem Grw.alloc (h : Grw e tv sz w wr B2 o R v n xs) (x : Obj) : Grw e tv sz w (wr.alloc x) B2 o R v n xs := h.to ((Below.refl _ _).alloc (Nat.le_refl _) x)
theorem Grw.drew (h : Grw e tv sz w wr B2 o R v n xs) : Grw e tv sz w wr.drew B2 o R v n xs := h.to ((Below.refl wr.heap.size wr).drew)
theorem Grw.grown (h : Grw e tv sz w wr B2 o R v n xs) (hg : wr.grownBy w' v.ownBlock) : Own w w' ((o, tv, #[v]) :: R) :=
  h.own.grown (row_monoG h.row h.b2.2.1) hg (by
    intro x hx
    rcases List.mem_cons.1 hx with rfl | hx
    · exact h.ty.1
    · exact h.ty.2 x hx)
/-- the slice is appended to, and stored in its block -/
theorem Grw.app {v4 : Value} {n4 : Nat} {xs4 : List Value} (h : Grw e tv sz w wr B2 o R v n xs) (hown : w'.ownsRow B2 e sz v4 n4 xs4) (hg : wr.grownBy w' v.ownBlock) : Grw e tv sz w (w'.setCell ⟨o, 0, none⟩ v4) B2 o R v4 n4 xs4 := by
  have Y := h.grown hg
  have hsz : w'.heap.size ≤ (w'.setCell ⟨o, 0, none⟩ v4).heap.size := by simp [World.setCell]
  refine ⟨?_, ?_, ⟨Nat.le_trans h.b2.1 (Nat.le_trans hg.size hsz), h.b2.2⟩, h.lt, h.ty, h.ne⟩
  · exact Y.set0 h.b2.2.2 h.ne 0 v4
  · exact row_set hown (Y.2 _ (List.mem_cons_self ..)) h.ty.1 0 v4
/-- what lay below the row's base, but for the variable's block, lies as it lay behind an append -/
theorem Grw.kept {v4 : Value} (h : Grw e tv sz w wr B2 o R v n xs) (hg : wr.grownBy w' v.ownBlock) {k : Nat} (hk : k < B2) (hne : k ≠ o) : (w'.setCell ⟨o, 0, none⟩ v4).heap[k]? = wr.heap[k]? := by
  have e1 : w'.heap[k]? = wr.heap[k]? := hg.block k (Nat.lt_of_lt_of_le hk h.b2.1) (fun e => by
    have := (h.row.lt k e.symm).1
    omega)
  exact (Below.heap_setCell w' ⟨o, 0, none⟩ v4 k hne).trans e1
/-- what is no cells lies as it lay behind an append -/
theorem Grw.others {v4 : Value} (h : Grw e tv sz w wr B2 o R v n xs) (hg : wr.grownBy w' v.ownBlock) : KeepsOthers wr (w'.setCell ⟨o, 0, none⟩ v4) :=
  (KeepsOthers.of_grownBy hg fun j x ej hj => by
    rcases h.row.2 with ⟨rfl, _⟩ | ⟨g, cap, cur, rfl, _, hgb, _⟩
    · simp [Value.ownBlock] at ej
    · obtain rfl : g = j := by simpa [Value.ownBlock] using ej
      rw [hgb] at hj; cases hj; rfl).trans (KeepsOthers.setCell _ _ _)
/-- one block of R is turned -/
theorem Grw.turnR {b : Nat} {t : TypeId} {cs cs' : Array Value} {R1 R2 : List (Nat × TypeId × Array Value)} (h : Grw e tv sz w wr B2 o (R1 ++ (b, t, cs) :: R2) v n xs) (hb : w.heap.size ≤ b) (hn : ∀ x ∈ R1 ++ R2, x.1 ≠ b) (i : Nat) (u : Value) (hcs : cs' = cs.setIfInBounds i u) :
    Grw e tv sz w (wr.setCell ⟨b, i, none⟩ u) B2 o (R1 ++ (b, t, cs') :: R2) v n xs := by
  subst hcs
  have hB : Blk wr b t cs := h.own.2 (b, t, cs) (by simp)
  have hbo : b ≠ o := h.ne (b, t, cs) (by simp)
  refine ⟨⟨below_set h.own.1 hb u, fun x hx => ?_⟩, row_set h.row hB (h.ty.2 (b, t, cs) (by simp)) i u, ⟨by have := h.b2.1; simp [World.setCell]; exact this, h.b2.2⟩, ⟨h.lt.1, fun x hx => ?_⟩, ⟨h.ty.1, fun x hx => ?_⟩, fun x hx => ?_⟩
  · rcases List.mem_cons.1 hx with rfl | hx
    · exact (h.own.2 _ (List.mem_cons_self ..)).off hbo.symm u
    · rcases List.mem_append.1 hx with hx | hx
      · exact (h.own.2 x (by simp [hx])).off (hn x (by simp [hx])) u
      · rcases List.mem_cons.1 hx with rfl | hx
        · exact hB.set_ i u
        · exact (h.own.2 x (by simp [hx])).off (hn x (by simp [hx])) u
  · rcases List.mem_append.1 hx with hx | hx
    · exact h.lt.2 x (by simp [hx])
    · rcases List.mem_cons.1 hx with rfl | hx
      · exact h.lt.2 (b, t, cs) (by simp)
      · exact h.lt.2 x (by simp [hx])
  · rcases List.mem_append.1 hx with hx | hx
    · exact h.ty.2 x (by simp [hx])
    · rcases List.mem_cons.1 hx with rfl | hx
      · exact h.ty.2 (b, t, cs) (by simp)
      · exact h.ty.2 x (by simp [hx])
  · rcases List.mem_append.1 hx with hx | hx
    · exact h.ne x (by simp [hx])
    · rcases List.mem_cons.1 hx with rfl | hx
      · exact h.ne (b, t, cs) (by simp)
      · exact h.ne x (by simp [hx])
/-- a block that holds no cells is turned, beyond the row's base -/
theorem Grw.turn {row : Option Nat} (h : Grw e tv sz w wr B2 o R v n xs) (hg : wr.grownBy w' row) (hr : ∀ r, row = some r → B2 ≤ r ∧ ∃ x : Obj, wr.heap[r]? = some x ∧ x.isCells = false) : Grw e tv sz w w' B2 o R v n xs := by
  have nb : ∀ (b : Nat) (t : TypeId) (cs : Array Value) (f : Nat × Nat), wr.heap[b]? = some (.cells cs t f) → w'.heap[b]? = some (.cells cs t f) := fun b t cs f hb =>
    (hg.block b (Array.getElem?_eq_some_iff.1 hb).1 (fun e => by
      obtain ⟨_, x, hx, hc⟩ := hr b e.symm
      rw [hb] at hx; cases hx; cases hc)).trans hb
  refine ⟨⟨h.own.1.grown hg h.own.1.size (fun k hk => Nat.le_trans h.b2.2.1 (hr k hk).1), fun x hx => nb _ _ _ _ (h.own.2 x hx)⟩, ?_, ⟨Nat.le_trans h.b2.1 hg.size, h.b2.2⟩, h.lt, h.ty, h.ne⟩
  refine h.row.kept hg ?_
  rcases h.row.2 with ⟨rfl, _⟩ | ⟨g, cap, cur, rfl, _, hgb, _⟩
  · exact .inl rfl
  · refine .inr fun e => ?_
    obtain ⟨_, x, hx, hc⟩ := hr g (by simpa [Value.ownBlock] using e.symm)
    rw [hgb] at hx; cases hx; cases hc
/-- a block that is not ours, below the row's base, is turned (a box of somebody else's) -/
theorem Grw.box {b : Nat} (h : Grw e tv sz w wr B2 o R v n xs) (hg : wr.grownBy w' (some b)) (hb : w.heap.size ≤ b) (hB : b < B2) (ho : b ≠ o) (hR : ∀ x ∈ R, x.1 ≠ b) : Grw e tv sz w w' B2 o R v n xs := by
  refine ⟨⟨h.own.1.grown hg h.own.1.size (fun k hk => by injection hk with hk; omega), fun x hx => ?_⟩, ?_, ⟨Nat.le_trans h.b2.1 hg.size, h.b2.2⟩, h.lt, h.ty, h.ne⟩
  · have hx' := h.own.2 x hx
    refine (hg.block x.1 hx'.lt (fun e => ?_)).trans hx'
    injection e with e
    rcases List.mem_cons.1 hx with rfl | hx
    · exact ho e.symm
    · exact hR x hx e
  · refine h.row.kept hg ?_
    rcases h.row.2 with ⟨rfl, _⟩ | ⟨g, cap, cur, rfl, hgB, _⟩
    · exact .inl rfl
    · refine .inr fun e => ?_
      have : g = b := by simpa [Value.ownBlock] using e
      omega
end
end Go.Proofs.YtkjndkeboeieoaaGreatDoor

namespace Go.Proofs.YtkjndkeboeieoaaGreatDoor

theorem Own.r6 {w W : World} {b0 b1 b2 b3 b4 b5 : Nat} {t0 t1 t2 t3 t4 t5 : TypeId} {c0 c1 c2 c3 c4 c5 : Array Value} {L} (h : Own w W ((b0, t0, c0) :: (b1, t1, c1) :: (b2, t2, c2) :: (b3, t3, c3) :: (b4, t4, c4) :: (b5, t5, c5) :: L)) :
    ((∀ i, W.cell? ⟨b0, i, none⟩ = c0[i]?) ∧ (∀ i, W.frozen? ⟨b0, i, none⟩ = false) ∧ b0 < W.heap.size) ∧
    ((∀ i, W.cell? ⟨b1, i, none⟩ = c1[i]?) ∧ (∀ i, W.frozen? ⟨b1, i, none⟩ = false) ∧ b1 < W.heap.size) ∧
    ((∀ i, W.cell? ⟨b2, i, none⟩ = c2[i]?) ∧ (∀ i, W.frozen? ⟨b2, i, none⟩ = false) ∧ b2 < W.heap.size) ∧
    ((∀ i, W.cell? ⟨b3, i, none⟩ = c3[i]?) ∧ (∀ i, W.frozen? ⟨b3, i, none⟩ = false) ∧ b3 < W.heap.size) ∧
    ((∀ i, W.cell? ⟨b4, i, none⟩ = c4[i]?) ∧ (∀ i, W.frozen? ⟨b4, i, none⟩ = false) ∧ b4 < W.heap.size) ∧
    ((∀ i, W.cell? ⟨b5, i, none⟩ = c5[i]?) ∧ (∀ i, W.frozen? ⟨b5, i, none⟩ = false) ∧ b5 < W.heap.size) := ⟨h.r1, h.tail.r5⟩
theorem Own.r7 {w W : World} {b0 b1 b2 b3 b4 b5 b6 : Nat} {t0 t1 t2 t3 t4 t5 t6 : TypeId} {c0 c1 c2 c3 c4 c5 c6 : Array Value} {L} (h : Own w W ((b0, t0, c0) :: (b1, t1, c1) :: (b2, t2, c2) :: (b3, t3, c3) :: (b4, t4, c4) :: (b5, t5, c5) :: (b6, t6, c6) :: L)) :
    ((∀ i, W.cell? ⟨b0, i, none⟩ = c0[i]?) ∧ (∀ i, W.frozen? ⟨b0, i, none⟩ = false) ∧ b0 < W.heap.size) ∧
    ((∀ i, W.cell? ⟨b1, i, none⟩ = c1[i]?) ∧ (∀ i, W.frozen? ⟨b1, i, none⟩ = false) ∧ b1 < W.heap.size) ∧
    ((∀ i, W.cell? ⟨b2, i, none⟩ = c2[i]?) ∧ (∀ i, W.frozen? ⟨b2, i, none⟩ = false) ∧ b2 < W.heap.size) ∧
    ((∀ i, W.cell? ⟨b3, i, none⟩ = c3[i]?) ∧ (∀ i, W.frozen? ⟨b3, i, none⟩ = false) ∧ b3 < W.heap.size) ∧
    ((∀ i, W.cell? ⟨b4, i, none⟩ = c4[i]?) ∧ (∀ i, W.frozen? ⟨b4, i, none⟩ = false) ∧ b4 < W.heap.size) ∧
    ((∀ i, W.cell? ⟨b5, i, none⟩ = c5[i]?) ∧ (∀ i, W.frozen? ⟨b5, i, none⟩ = false) ∧ b5 < W.heap.size) ∧
    ((∀ i, W.cell? ⟨b6, i, none⟩ = c6[i]?) ∧ (∀ i, W.frozen? ⟨b6, i, none⟩ = false) ∧ b6 < W.heap.size) := ⟨h.r1, h.tail.r6⟩
theorem Own.r8 {w W : World} {b0 b1 b2 b3 b4 b5 b6 b7 : Nat} {t0 t1 t2 t3 t4 t5 t6 t7 : TypeId} {c0 c1 c2 c3 c4 c5 c6 c7 : Array Value} {L} (h : Own w W ((b0, t0, c0) :: (b1, t1, c1) :: (b2, t2, c2) :: (b3, t3, c3) :: (b4, t4, c4) :: (b5, t5, c5) :: (b6, t6, c6) :: (b7, t7, c7) :: L)) :
    ((∀ i, W.cell? ⟨b0, i, none⟩ = c0[i]?) ∧ (∀ i, W.frozen? ⟨b0, i, none⟩ = false) ∧ b0 < W.heap.size) ∧
    ((∀ i, W.cell? ⟨b1, i, none⟩ = c1[i]?) ∧ (∀ i, W.frozen? ⟨b1, i, none⟩ = false) ∧ b1 < W.heap.size) ∧
    ((∀ i, W.cell? ⟨b2, i, none⟩ = c2[i]?) ∧ (∀ i, W.frozen? ⟨b2, i, none⟩ = false) ∧ b2 < W.heap.size) ∧
    ((∀ i, W.cell? ⟨b3, i, none⟩ = c3[i]?) ∧ (∀ i, W.frozen? ⟨b3, i, none⟩ = false) ∧ b3 < W.heap.size) ∧
    ((∀ i, W.cell? ⟨b4, i, none⟩ = c4[i]?) ∧ (∀ i, W.frozen? ⟨b4, i, none⟩ = false) ∧ b4 < W.heap.size) ∧
    ((∀ i, W.cell? ⟨b5, i, none⟩ = c5[i]?) ∧ (∀ i, W.frozen? ⟨b5, i, none⟩ = false) ∧ b5 < W.heap.size) ∧
    ((∀ i, W.cell? ⟨b6, i, none⟩ = c6[i]?) ∧ (∀ i, W.frozen? ⟨b6, i, none⟩ = false) ∧ b6 < W.heap.size) ∧
    ((∀ i, W.cell? ⟨b7, i, none⟩ = c7[i]?) ∧ (∀ i, W.frozen? ⟨b7, i, none⟩ = false) ∧ b7 < W.heap.size) := ⟨h.r1, h.tail.r7⟩
theorem Own.r9 {w W : World} {b0 b1 b2 b3 b4 b5 b6 b7 b8 : Nat} {t0 t1 t2 t3 t4 t5 t6 t7 t8 : TypeId} {c0 c1 c2 c3 c4 c5 c6 c7 c8 : Array Value} {L} (h : Own w W ((b0, t0, c0) :: (b1, t1, c1) :: (b2, t2, c2) :: (b3, t3, c3) :: (b4, t4, c4) :: (b5, t5, c5) :: (b6, t6, c6) :: (b7, t7, c7) :: (b8, t8, c8) :: L)) :
    ((∀ i, W.cell? ⟨b0, i, none⟩ = c0[i]?) ∧ (∀ i, W.frozen? ⟨b0, i, none⟩ = false) ∧ b0 < W.heap.size) ∧
    ((∀ i, W.cell? ⟨b1, i, none⟩ = c1[i]?) ∧ (∀ i, W.frozen? ⟨b1, i, none⟩ = false) ∧ b1 < W.heap.size) ∧
    ((∀ i, W.cell? ⟨b2, i, none⟩ = c2[i]?) ∧ (∀ i, W.frozen? ⟨b2, i, none⟩ = false) ∧ b2 < W.heap.size) ∧
    ((∀ i, W.cell? ⟨b3, i, none⟩ = c3[i]?) ∧ (∀ i, W.frozen? ⟨b3, i, none⟩ = false) ∧ b3 < W.heap.size) ∧
    ((∀ i, W.cell? ⟨b4, i, none⟩ = c4[i]?) ∧ (∀ i, W.frozen? ⟨b4, i, none⟩ = false) ∧ b4 < W.heap.size) ∧
    ((∀ i, W.cell? ⟨b5, i, none⟩ = c5[i]?) ∧ (∀ i, W.frozen? ⟨b5, i, none⟩ = false) ∧ b5 < W.heap.size) ∧
    ((∀ i, W.cell? ⟨b6, i, none⟩ = c6[i]?) ∧ (∀ i, W.frozen? ⟨b6, i, none⟩ = false) ∧ b6 < W.heap.size) ∧
    ((∀ i, W.cell? ⟨b7, i, none⟩ = c7[i]?) ∧ (∀ i, W.frozen? ⟨b7, i, none⟩ = false) ∧ b7 < W.heap.size) ∧
    ((∀ i, W.cell? ⟨b8, i, none⟩ = c8[i]?) ∧ (∀ i, W.frozen? ⟨b8, i, none⟩ = false) ∧ b8 < W.heap.size) := ⟨h.r1, h.tail.r8⟩
theorem Own.r10 {w W : World} {b0 b1 b2 b3 b4 b5 b6 b7 b8 b9 : Nat} {t0 t1 t2 t3 t4 t5 t6 t7 t8 t9 : TypeId} {c0 c1 c2 c3 c4 c5 c6 c7 c8 c9 : Array Value} {L} (h : Own w W ((b0, t0, c0) :: (b1, t1, c1) :: (b2, t2, c2) :: (b3, t3, c3) :: (b4, t4, c4) :: (b5, t5, c5) :: (b6, t6, c6) :: (b7, t7, c7) :: (b8, t8, c8) :: (b9, t9, c9) :: L)) :
    ((∀ i, W.cell? ⟨b0, i, none⟩ = c0[i]?) ∧ (∀ i, W.frozen? ⟨b0, i, none⟩ = false) ∧ b0 < W.heap.size) ∧
    ((∀ i, W.cell? ⟨b1, i, none⟩ = c1[i]?) ∧ (∀ i, W.frozen? ⟨b1, i, none⟩ = false) ∧ b1 < W.heap.size) ∧
    ((∀ i, W.cell? ⟨b2, i, none⟩ = c2[i]?) ∧ (∀ i, W.frozen? ⟨b2, i, none⟩ = false) ∧ b2 < W.heap.size) ∧
    ((∀ i, W.cell? ⟨b3, i, none⟩ = c3[i]?) ∧ (∀ i, W.frozen? ⟨b3, i, none⟩ = false) ∧ b3 < W.heap.size) ∧
    ((∀ i, W.cell? ⟨b4, i, none⟩ = c4[i]?) ∧ (∀ i, W.frozen? ⟨b4, i, none⟩ = false) ∧ b4 < W.heap.size) ∧
    ((∀ i, W.cell? ⟨b5, i, none⟩ = c5[i]?) ∧ (∀ i, W.frozen? ⟨b5, i, none⟩ = false) ∧ b5 < W.heap.size) ∧
    ((∀ i, W.cell? ⟨b6, i, none⟩ = c6[i]?) ∧ (∀ i, W.frozen? ⟨b6, i, none⟩ = false) ∧ b6 < W.heap.size) ∧
    ((∀ i, W.cell? ⟨b7, i, none⟩ = c7[i]?) ∧ (∀ i, W.frozen? ⟨b7, i, none⟩ = false) ∧ b7 < W.heap.size) ∧
    ((∀ i, W.cell? ⟨b8, i, none⟩ = c8[i]?) ∧ (∀ i, W.frozen? ⟨b8, i, none⟩ = false) ∧ b8 < W.heap.size) ∧
    ((∀ i, W.cell? ⟨b9, i, none⟩ = c9[i]?) ∧ (∀ i, W.frozen? ⟨b9, i, none⟩ = false) ∧ b9 < W.heap.size) := ⟨h.r1, h.tail.r9⟩
end Go.Proofs.YtkjndkeboeieoaaGreatDoor

namespace Go.Proofs.YtkjndkeboeieoaaGreatDoor
open Go Go.RowKit

/-- a slice of strings that reads as a list -/
def StrSl (w : World) (A : Option Addr) (l : List (List UInt8)) : Prop :=
  l.length ≤ 9223372036854775807 ∧ (0 < l.length → ∃ b off, A = some ⟨b, off, none⟩ ∧ b < w.heap.size ∧ ∀ i (h : i < l.length), w.cell? ⟨b, off + i, none⟩ = some (strV l[i]))
theorem StrSl.below {w w' : World} {A : Option Addr} {l : List (List UInt8)} (h : StrSl w A l) (hb : Below w.heap.size w w') : StrSl w' A l :=
  ⟨h.1, fun hl => by obtain ⟨b, off, e, hlt, hat⟩ := h.2 hl; exact ⟨b, off, e, Nat.lt_of_lt_of_le hlt hb.size, fun i hi => (hb.cell (p := ⟨b, off + i, none⟩) hlt).trans (hat i hi)⟩⟩
theorem StrSl.nil (w : World) (A : Option Addr) : StrSl w A [] := ⟨by simp, fun h => by simp at h⟩
theorem StrSl.of_blk {w : World} {g : Nat} {t : TypeId} {l : List (List UInt8)} (h : Blk w g t (l.map strV).toArray) (hl : l.length ≤ 9223372036854775807) : StrSl w (some ⟨g, 0, none⟩) l :=
  ⟨hl, fun _ => ⟨g, 0, rfl, h.lt, fun i hi => by rw [Nat.zero_add, h.cell]; simp [hi]⟩⟩
theorem StrSl.of_row {w : World} {base : Nat} {e : TypeId} {v : Value} {n : Nat} {l : List (List UInt8)} (h : w.ownsRow base e 1 v n (l.map strV)) (hb : l.length ≤ 9223372036854775807) : ∃ A c, v = .slice A l.length c ∧ StrSl w A l ∧ l.length ≤ c := by
  have hn : l.length = n := by have := h.1; simpa using this
  rcases h.2 with ⟨rfl, h0⟩ | ⟨g, cap, cur, rfl, hg, hcell, hnc, _, hsz, htake⟩
  · rw [h0] at hn
    have : l = [] := List.eq_nil_of_length_eq_zero hn
    subst this
    exact ⟨none, 0, rfl, StrSl.nil w none, by simp⟩
  · subst hn
    refine ⟨some ⟨g, 0, none⟩, cap, rfl, ⟨hb, fun _ => ⟨g, 0, rfl, (Array.getElem?_eq_some_iff.1 hcell).1, fun i hi => ?_⟩⟩, hnc⟩
    have hc := h.cells (g := g) rfl i (strV l[i]) (by simp [hi])
    have e : (⟨g, 0, none⟩ : Addr).add i = ⟨g, 0 + i, none⟩ := by unfold Addr.add; split <;> simp_all
    rw [e] at hc
    exact hc
theorem pts_length (c : UInt8) : ∀ l : List UInt8, (pts c l).length ≤ l.length + 1
  | [] => by simp [pts]
  | b :: r => by
    have := pts_length c r
    rw [pts]
    split
    · simp; omega
    · split
      · simp
      · rename_i h t e
        rw [e] at this
        simp at this ⊢
        omega
theorem pts_len {c : UInt8} : ∀ {l : List UInt8}, ∀ p ∈ pts c l, p.length ≤ l.length
  | [], p, h => by simp [pts] at h; simp [h]
  | b :: r, p, h => by
    have ih := fun p h => pts_len (c := c) (l := r) p h
    rw [pts] at h
    by_cases hb : b = c
    · rw [if_pos hb] at h
      rcases List.mem_cons.1 h with rfl | h
      · simp
      · have := ih p h; simp; omega
    · rw [if_neg hb] at h
      cases hp : pts c r with
      | nil => exact absurd hp (pts_ne c r)
      | cons q t =>
        rw [hp] at h ih
        rcases List.mem_cons.1 h with rfl | h
        · have := ih q (List.mem_cons_self ..); simp; omega
        · have := ih p (List.mem_cons_of_mem _ h); simp; omega
theorem lns_len {s : List UInt8} : ∀ x ∈ lns s, x.length ≤ s.length + 1 := fun x h => lnsOf_len (pts 10 s) s.length (fun p hp => pts_len p hp) x h
theorem lns_length (s : List UInt8) : (lns s).length ≤ s.length + 1 := by
  have key : ∀ ps : List (List UInt8), (lnsOf ps).length ≤ ps.length := by
    intro ps
    induction ps with
    | nil => simp [lnsOf]
    | cons p ps ih =>
      cases ps with
      | nil => rw [lnsOf]; split <;> simp
      | cons q r => rw [lnsOf]; simp at ih ⊢; exact ih
  exact Nat.le_trans (key _) (pts_length 10 s)
theorem body_len (x : List UInt8) : (bodyL x).length ≤ x.length := by unfold bodyL; split <;> simp
def SplPost (l : List (List UInt8)) (w : World) (e : Ending) (w' : World) : Prop := Below w.heap.size w w' ∧ ∃ A c, e = .returned (.slice A l.length c) ∧ StrSl w' A l ∧ l.length ≤ c
theorem split_any (l : List UInt8) (c : UInt8) (w : World) (hl : l.length < 4294967281) (ht : TxtW w) : Calls Tryz.prog 61 #[strV l, strV [c]] w (SplPost (pts c l) w) := by
  obtain ⟨m, hm⟩ := ht.2.1
  have hs : (⟨l.toArray⟩ : ByteArray).size = l.length := by simp [ByteArray.size]
  have hd : (⟨l.toArray⟩ : ByteArray).data.toList = l := by simp
  have e1 : (Lib.splitB ⟨[c].toArray⟩ 0 (Lib.countB ⟨l.toArray⟩ ⟨[c].toArray⟩) ⟨l.toArray⟩).map (·.data.toList) = pts c l := by
    rw [Lib.splitB_data]
    have := split_pts c l.length l (Nat.le_refl _)
    unfold Lib.split at this
    rw [← this]
  have e2 : (Lib.splitB ⟨[c].toArray⟩ 0 (Lib.countB ⟨l.toArray⟩ ⟨[c].toArray⟩) ⟨l.toArray⟩).map Value.string = (pts c l).map strV := by
    rw [← e1, List.map_map]
    exact List.map_congr_left fun x _ => (strV_data x).symm
  have e3 : Lib.countB ⟨l.toArray⟩ ⟨[c].toArray⟩ + 1 = (pts c l).length := by
    rw [← e1, List.length_map, Lib.splitB_all ⟨[c].toArray⟩ (by simp [ByteArray.size]) 0 _ _ rfl]
  refine (Tryz.strings_Split ⟨l.toArray⟩ ⟨[c].toArray⟩ m w (by rw [hs]; exact hl) hm (by simp [ByteArray.size])).mono fun e w' ⟨he, hw⟩ => ?_
  rw [e2] at hw
  rw [e3] at he
  subst hw
  exact ⟨(Below.refl _ _).alloc (Nat.le_refl _) _, _, _, he, StrSl.of_blk (Blk.new _ _ _) (by have := pts_length c l; omega), Nat.le_refl _⟩
theorem ba_take (l : List UInt8) (k : Nat) : (⟨l.toArray⟩ : ByteArray).extract 0 k = ⟨(l.take k).toArray⟩ := by
  apply ByteArray.ext
  rw [ByteArray.data_extract]
  apply Array.ext'
  simp
theorem ba_drop (l : List UInt8) (k : Nat) : (⟨l.toArray⟩ : ByteArray).extract k (⟨l.toArray⟩ : ByteArray).size = ⟨(l.drop k).toArray⟩ := by
  apply ByteArray.ext
  rw [ByteArray.data_extract]
  apply Array.ext'
  simp [ByteArray.size]
  rw [List.take_of_length_le (by simp)]
theorem end_len {x : List UInt8} (h : endB x = true) : 1 ≤ x.length := by
  unfold endB Lib.hasSuffix at h
  have := (List.isSuffixOf_iff_suffix.1 h).length_le
  simpa using this
set_option maxHeartbeats 400000 in
theorem scutSuf_any (l : List UInt8) (w : World) (hl : l.length ≤ 9223372036854775807) :
    Calls Tryz.prog 60 #[strV l, strV [10]] w fun e w' => e = .returned (.tuple #[strV (bodyL l), .bool (endB l)]) ∧ w = w' := by
  have hs : (⟨l.toArray⟩ : ByteArray).size = l.length := by simp [ByteArray.size]
  have S := hide (fun W => Tryz.stringslite_HasSuffix ⟨l.toArray⟩ ⟨#[10]⟩ W (by rw [hs]; exact hl))
  have eE : Lib.hasSuffix (⟨l.toArray⟩ : ByteArray).data.toList (⟨#[10]⟩ : ByteArray).data.toList = endB l := by simp [endB]
  rw [eE] at S
  rcases Bool.eq_false_or_eq_true (endB l) with h | h
  · have h1 := end_len h
    have eB : bodyL l = l.take (l.length - 1) := by unfold bodyL; rw [if_pos h]
    have EB := hide (And.intro eB (ba_take l (l.length - 1)))
    have i1 := IntWalk.i64_in ((l.length : Int) - 1) (by omega)
    have t1 : ((l.length : Int) - 1).toNat = l.length - 1 := by omega
    rw [h] at S
    rw [h]
    clear h eB eE hs
    go_enter Tryz.func60, Tryz.ntmps60
    go_wp2_with fail
    refine (S.out _).mono ?_
    rintro e w' ⟨rfl, rfl⟩
    go_wp2
    go_ret2
    exact ⟨by rw [EB.out.1]; show Ending.returned (.tuple #[.string _, _]) = _; rw [EB.out.2]; rfl, rfl⟩
  · have EB : Hid (bodyL l = l) := hide (by unfold bodyL; rw [if_neg (by rw [h]; simp)])
    rw [h] at S
    rw [h]
    clear h eE hs
    go_enter Tryz.func60, Tryz.ntmps60
    go_wp2_with fail
    refine (S.out _).mono ?_
    rintro e w' ⟨rfl, rfl⟩
    go_wp2
    go_ret2
    exact ⟨by rw [EB.out]; rfl, rfl⟩
set_option maxHeartbeats 400000 in
theorem cutSuf_any (l : List UInt8) (w : World) (hl : l.length ≤ 9223372036854775807) :
    Calls Tryz.prog 34 #[strV l, strV [10]] w fun e w' => e = .returned (.tuple #[strV (bodyL l), .bool (endB l)]) ∧ w = w' := by
  have S := hide (fun W => scutSuf_any l W hl)
  generalize bodyL l = b at *
  generalize endB l = t at *
  go_enter Tryz.func34, Tryz.ntmps34
  go_wp2_with fail
  refine (S.out _).mono ?_
  rintro e w' ⟨rfl, rfl⟩
  go_wp2
  go_ret2
  exact ⟨rfl, rfl⟩
end Go.Proofs.YtkjndkeboeieoaaGreatDoor
