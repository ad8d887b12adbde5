/- The program's Of (layer 19): the greatest sums of a record for some durations, or the error; nothing that was there is turned. -/
import Derived.Test.YtjnifgheipmanaaRcRef
import Derived.Deep.RegionHeldLaw
namespace Go.Proofs.Ytjnifgheipmanaa
open Go.RowKit

set_option maxHeartbeats 1000000 in
theorem idxfC_any (f : Nat) (pp : Value) (p : Int → Bool) (l : List Int) (A : Option Addr) (cap : Nat) (w : World) (hl : IntSl w A l)
    (hf : ∀ (d : Int) (W : World), Below w.heap.size w W → -9223372036854775808 ≤ d ∧ d ≤ 9223372036854775807 → Calls Try.prog f #[.int .i64 d, pp] W (BPost (p d) W)) (hc : ∀ (d : Int) (W : World), (callFunc f #[.int .i64 d, pp]).run Try.prog W = .ok (.enter f #[.int .i64 d, pp]) W) :
    Calls Try.prog 69 #[.slice A l.length cap, .func (.func f) #[] #[pp]] w fun e w' => e = .returned (.int .i64 (idxP p l)) ∧ Below w.heap.size w w' := by
  have hlen : l.length ≤ 9223372036854775807 := by have := hl.1.1; omega
  have H := hide hl
  have F := hide hf
  clear hl hf
  go_enter Try.func69, Try.ntmps69
  go_wp2
  go_loopw [8] (fun v8 wr => ∃ k : Nat, k ≤ l.length ∧ v8 = .int .i64 k ∧ Below w.heap.size w wr ∧ Hid (∀ i (hi : i < l.length), i < k → p l[i] = false)) (fun v8 _ => l.length - (intOf v8).toNat)
  case atStart => exact ⟨0, Nat.zero_le _, rfl, Below.refl _ _, hide (fun _ _ h => by omega)⟩
  case round =>
    obtain ⟨k, hk, rfl, hb, hno⟩ := hrel
    by_cases hlt : k < l.length
    · obtain ⟨b, off, rfl, hbl, hat⟩ := (H.out.below hb).2 (by omega)
      have c0 := hat k hlt
      have ri := H.out.1.2 k hlt
      clear hat
      have HB := hide hb
      clear hb
      rcases Bool.eq_false_or_eq_true (p l[k]) with hs | hs
      · go_wp2_with fail
        refine (F.out l[k] _ HB.out ri).mono ?_
        rintro e w' ⟨rfl, hb⟩
        have B2 := hide (below_via HB.out HB.out.size hb)
        rw [hs]
        clear hb
        go_wp2
        go_ret
        exact ⟨ret_int (idxP_yes hlt (fun i hi hik => hno.out i hi hik) hs).symm, B2.out⟩
      · go_wp2_with fail
        refine (F.out l[k] _ HB.out ri).mono ?_
        rintro e w' ⟨rfl, hb⟩
        have B2 := hide (below_via HB.out HB.out.size hb)
        rw [hs]
        clear hb
        go_wp2
        go_roundw
        case rel =>
          refine ⟨k + 1, by omega, by go_num, B2.out, hide fun i hi hik => ?_⟩
          by_cases e : i = k
          · subst e; exact hs
          · exact hno.out i hi (by omega)
        case measure => simp [intOf]; omega
    · go_wp2
      go_ret
      exact ⟨ret_int (idxP_no fun i hi => hno.out i hi (by omega)).symm, hb⟩
set_option maxHeartbeats 1000000 in
theorem contC_any (f : Nat) (pp : Value) (p : Int → Bool) (l : List Int) (A : Option Addr) (cap : Nat) (w : World) (hl : IntSl w A l)
    (hf : ∀ (d : Int) (W : World), Below w.heap.size w W → -9223372036854775808 ≤ d ∧ d ≤ 9223372036854775807 → Calls Try.prog f #[.int .i64 d, pp] W (BPost (p d) W)) (hc : ∀ (d : Int) (W : World), (callFunc f #[.int .i64 d, pp]).run Try.prog W = .ok (.enter f #[.int .i64 d, pp]) W) :
    Calls Try.prog 46 #[.slice A l.length cap, .func (.func f) #[] #[pp]] w (BPost (l.any p) w) := by
  have F := hide hf
  have H := hide (any_idx p l)
  clear hf
  have HL := hide hl
  clear hl
  go_enter Try.func46, Try.ntmps46
  go_wp2_with fail
  refine (idxfC_any f pp p l A cap _ HL.out F.out hc).mono ?_
  rintro e w' ⟨rfl, hb⟩
  have HB := hide hb
  clear hb
  go_wp2
  go_ret
  exact BPost.mk H.out HB.out
set_option maxHeartbeats 400000 in
theorem of1_any (s : Ser) (a : SerA) (d : Int) (b : Nat) (w : World) (h1 : 1 ≤ s.st ∧ s.st ≤ 86400) (h2 : s.ds.length ≤ 10000) (hd : -9223372036854775808 ≤ d ∧ d ≤ 9223372036854775807)
    (c0 : w.cell? ⟨b, 0, none⟩ = some (.int .i64 s.fr)) (c1 : w.cell? ⟨b, 1, none⟩ = some (.int .i64 s.st)) (c2 : w.cell? ⟨b, 2, none⟩ = some (.slice a.A s.ds.length a.c)) :
    Calls Try.prog 47 #[.int .i64 d, .pointer (some ⟨b, 0, none⟩)] w (BPost (!lastB s d) w) := by
  have L := hide (fun W => lasts_any s a d W h1 h2 hd)
  clear h1 h2 hd
  go_enter Try.func47, Try.ntmps47
  go_wp2_with fail
  refine (L.out _).mono ?_
  rintro e w1 ⟨rfl, hb⟩
  have HB := hide hb
  clear hb
  go_wp2
  go_ret
  exact BPost.mk rfl HB.out
def ofE (s : Ser) (ds : List Int) : Int := if 100 < ds.length then 4 else if ds.all (lastB s) = true then 0 else 2
def gmS (s : Ser) (d : Int) : Int := gm s.ds (kkS s d) s.ds.length
def ofL (s : Ser) (ds : List Int) : List Int := if ofE s ds = 0 then ds.map (gmS s) else []
def OfPost (L : List Int) (er : Int) (w : World) (e : Ending) (w' : World) : Prop := Below w.heap.size w w' ∧ ∃ (A : Option Addr) (c : Nat), e = .returned (.tuple #[.slice A L.length c, .int .i64 er]) ∧ IntSl w' A L
theorem OfPost.nil {L : List Int} {er er' : Int} {w w' : World} (h1 : L = []) (h2 : er = er') (hb : Below w.heap.size w w') : OfPost L er w (.returned (.tuple #[.slice none 0 0, .int .i64 er'])) w' := by
  subst h1 h2; exact ⟨hb, none, 0, rfl, IntSl.nil _ _⟩
theorem gmS_bd {s : Ser} (v : VS s) (d : Int) : -1 ≤ gmS s d ∧ gmS s d ≤ 41943040000 := by
  have := gm_bd s.ds (kkS s d) s.ds.length
  have := ps_le (fun i hi => (v.ok i hi).2) s.ds.length (Nat.le_refl _)
  have := v.le
  unfold gmS; omega
theorem int_info19 : (Try.prog.info? 3).map (fun i => (i.zero, i.size, i.bytes)) = some (some (.int .i64 0), 1, 8) := by kernel_rfl
theorem heap_new_at19 {W : World} {o : Obj} {n : Nat} (h : W.heap.size = n) : (W.alloc o).heap[n]? = some o := by subst h; exact heap_alloc_new W o
set_option maxRecDepth 100000 in
set_option maxHeartbeats 4000000 in
theorem of_any (s : Ser) (a : SerA) (ds : List Int) (B : Option Addr) (cd : Nat) (w : World) (hs : SerSl w s a) (hd : IntSl w B ds) (hv : vS s = true) :
    Calls Try.prog 22 #[s.val a, .slice B ds.length cd] w (OfPost (ofL s ds) (ofE s ds) w) := by
  obtain ⟨fr, st, l⟩ := s
  obtain ⟨A, c⟩ := a
  have X := (Own.start w).alloc #[.int .i64 fr, .int .i64 st, .slice A l.length c] 41
  have hr := X.r1
  have hlen : ds.length ≤ 9223372036854775807 := hd.1.1
  have GV := hide (fun W (h : SerSl W ⟨fr, st, l⟩ ⟨A, c⟩) => gvalid_any ⟨fr, st, l⟩ ⟨A, c⟩ W h)
  rw [hv] at GV
  have v := vS_iff.1 hv
  have VV := hide v
  have HS := hide hs
  have HD := hide hd
  have s1 : 1 ≤ st := v.st.1
  have s0 : (st == 0) = false := by simp; omega
  have s00 : ¬ st = 0 := by omega
  clear hs hd hv v s1
  show Calls Try.prog 22 #[.agg #[.int .i64 fr, .int .i64 st, .slice A l.length c], .slice B ds.length cd] w _
  by_cases h100 : 100 < ds.length
  · have E := hide (show ofE ⟨fr, st, l⟩ ds = 4 by unfold ofE; rw [if_pos h100])
    have E2 := hide (show ofL ⟨fr, st, l⟩ ds = [] by unfold ofL; rw [E.out]; rfl)
    go_enter Try.func22, Try.ntmps22
    go_wp2_with fail
    refine (GV.out _ (HS.out.below X.1)).mono ?_
    rintro e w1 ⟨rfl, hb⟩
    replace X := X.to hb
    clear hb hr
    have hr := X.r1
    go_wp2
    go_ret2
    exact OfPost.nil E2.out E.out X.1
  have hc : (w.alloc (.cells #[.int .i64 fr, .int .i64 st, .slice A l.length c] 41)).heap.size = w.heap.size + 1 := by simp
  have CF := hide (fun (W : World) (hB : Below w.heap.size w W) (hX : Own w W [(w.heap.size, 41, #[.int .i64 fr, .int .i64 st, .slice A l.length c])]) => contC_any 47 (.pointer (some ⟨w.heap.size, 0, none⟩)) (fun d => !lastB ⟨fr, st, l⟩ d) ds B cd W (HD.out.below hB)
    (fun d W' hB' hd => by
      have r := (hX.to hB').r1
      exact of1_any ⟨fr, st, l⟩ ⟨A, c⟩ d w.heap.size W' VV.out.st VV.out.le hd (by rw [r.1]; rfl) (by rw [r.1]; rfl) (by rw [r.1]; rfl)) (fun d W => by rfl))
  have AN : (ds.any fun d => !lastB ⟨fr, st, l⟩ d) = !ds.all (lastB ⟨fr, st, l⟩) := by
    rw [Bool.eq_iff_iff]; simp
  rw [AN] at CF
  clear AN hc
  rcases Bool.eq_false_or_eq_true (ds.all (lastB ⟨fr, st, l⟩)) with hall | hall
  rotate_left
  · have E := hide (show ofE ⟨fr, st, l⟩ ds = 2 by unfold ofE; rw [if_neg h100, hall]; rfl)
    have E2 := hide (show ofL ⟨fr, st, l⟩ ds = [] by unfold ofL; rw [E.out]; rfl)
    rw [hall] at CF
    clear hall
    go_enter Try.func22, Try.ntmps22
    go_wp2_with fail
    refine (GV.out _ (HS.out.below X.1)).mono ?_
    rintro e w1 ⟨rfl, hb⟩
    replace X := X.to hb
    clear hb hr
    have hr := X.r1
    go_wp2_with fail
    refine (CF.out _ X.1 X).mono ?_
    rintro e w2 ⟨rfl, hb⟩
    replace X := X.to hb
    clear hb hr
    have hr := X.r1
    go_wp2
    go_ret2
    exact OfPost.nil E2.out E.out X.1
  · have E := hide (show ofE ⟨fr, st, l⟩ ds = 0 by unfold ofE; rw [if_neg h100, hall]; rfl)
    have E2 := hide (show ofL ⟨fr, st, l⟩ ds = ds.map (gmS ⟨fr, st, l⟩) by unfold ofL; rw [E.out]; rfl)
    rw [hall] at CF
    have LA := hide (fun (k : Nat) (hk : k < ds.length) => (List.all_eq_true.1 hall) ds[k] (List.getElem_mem hk))
    have GR := hide (fun (W : World) (h : SerSl W ⟨fr, st, l⟩ ⟨A, c⟩) (k : Nat) h1 h2 => greatest_in ⟨fr, st, l⟩ ⟨A, c⟩ k W h (vS_iff.2 VV.out) h1 h2)
    obtain ⟨i0, hi0, hz0, hz1, hz2⟩ := info_parts int_info19
    clear hall
    go_enter Try.func22, Try.ntmps22
    go_wp2_with fail
    refine (GV.out _ (HS.out.below X.1)).mono ?_
    rintro e w1 ⟨rfl, hb⟩
    replace X := X.to hb
    clear hb hr
    have hr := X.r1
    go_wp2_with fail
    refine (CF.out _ X.1 X).mono ?_
    rintro e w2 ⟨rfl, hb⟩
    replace X := X.to hb
    clear hb hr
    have hr := X.r1
    go_wp2
    clear hr
    have XH := hide X
    clear X
    go_loopw [6, 26] (fun v6 v26 wr => ∃ k : Nat, k ≤ ds.length ∧ v26 = .int .i64 (k : Int) ∧
      Own w wr [(w.heap.size, 41, #[.int .i64 fr, .int .i64 st, .slice A l.length c])] ∧ wr.ownsRow w.heap.size 3 1 v6 k (((ds.take k).map (gmS ⟨fr, st, l⟩)).map (Value.int .i64))) (fun _ v26 _ => ds.length - (intOf v26).toNat)
    case atStart => exact ⟨0, Nat.zero_le _, rfl, XH.out, by simpa using World.ownsRow_nil _ _ _ _⟩
    case round =>
      obtain ⟨k, hk, rfl, Y, hrow⟩ := hrel
      by_cases hlt : k < ds.length
      · obtain ⟨b, off, rfl, hbl, hat⟩ := (HD.out.below Y.1).2 (by omega)
        have c0 := hat k hlt
        have la := LA.out k hlt
        obtain ⟨k1, k2, k3⟩ := lastB_k (s := ⟨fr, st, l⟩) VV.out.st.1 la
        have k3' : ds[k].tdiv st = (kkS ⟨fr, st, l⟩ ds[k] : Int) := k3
        have k2' : kkS ⟨fr, st, l⟩ ds[k] ≤ l.length := k2
        have le : l.length ≤ 10000 := VV.out.le
        have k4 : IntKind.i64.wrap (kkS ⟨fr, st, l⟩ ds[k] : Int) = (kkS ⟨fr, st, l⟩ ds[k] : Int) := IntWalk.i64_in _ (by omega)
        have G := hide (fun (W : World) (h : SerSl W ⟨fr, st, l⟩ ⟨A, c⟩) => GR.out W h (kkS ⟨fr, st, l⟩ ds[k]) k1 k2)
        have ET : Hid (((ds.take (k + 1)).map (gmS ⟨fr, st, l⟩)).map (Value.int .i64) = ((ds.take k).map (gmS ⟨fr, st, l⟩)).map (Value.int .i64) ++ [.int .i64 (gm l (kkS ⟨fr, st, l⟩ ds[k]) l.length)]) := hide (by
          rw [List.take_succ_eq_append_getElem hlt, List.map_append, List.map_append]; rfl)
        have LR : Hid (((ds.take k).map (gmS ⟨fr, st, l⟩)).map (Value.int .i64) = ((ds.take k).map (gmS ⟨fr, st, l⟩)).map (Value.int .i64)) := hide rfl
        clear hat la k1 k2 k3 k2' le LA GR CF
        generalize ds[k] = d at *
        generalize ((ds.take k).map (gmS ⟨fr, st, l⟩)).map (Value.int .i64) = R at *
        generalize kkS ⟨fr, st, l⟩ d = m at *
        have hr := Y.r1
        go_wp2_with fail
        have HX := hide Y
        have HR := hide hrow
        clear Y hrow
        go_region_held3 (fun w' => w'.cell? ⟨w.heap.size, 0, none⟩ = some (.int .i64 fr) ∧ w'.cell? ⟨w.heap.size, 1, none⟩ = some (.int .i64 st) ∧ w'.cell? ⟨w.heap.size, 2, none⟩ = some (.slice A l.length c)) (go_keep)
          ((go_at_call 49; (first | refine (G.out _ (HS.out.below HX.out.1)).mono ?_ | refine (G.out _ (HS.out.below HX.out.drew.1)).mono ?_); rintro e w3 ⟨rfl, hb⟩; (first | (replace HX := hide (HX.out.to hb); replace HR := hide (row_below HR.out hb)) | (replace HX := hide (HX.out.drew.to hb); replace HR := hide (row_below (row_drew HR.out) hb))); have hkk := keeps hb; clear hb))
        have hr := HX.out.r1
        generalize w3 = W at *
        go_wp2_with (at_builtin; refine wpList_append_own _ rfl _ _ 22 rfl w.heap.size 3 i0 (.int .i64 0) 1 8 Try.underlying22 hi0 hz0 hz1 hz2 rfl (by decide) _ k R rfl (HR.out.alloc (.cells #[.int .i64 (gm l m l.length)] 3)) ⟨W.heap.size, 0, none⟩ 1 1 [.int .i64 (gm l m l.length)] rfl rfl (World.news_of_block (cs := #[.int .i64 (gm l m l.length)]) (t := 3) (fr := (0, 0)) (heap_new_at19 (by rfl))) (by simp [Value.oneCell']) (by unfold maxLen; omega) (by omega) (by have := HX.out.1.size; simp; omega) ?_; intro v4 w4 hown4 hgrow _)
        have Y4 := (HX.out.alloc #[.int .i64 (gm l m l.length)] 3).tail.grown (HR.out.alloc (.cells #[.int .i64 (gm l m l.length)] 3)) hgrow (by simp)
        have B4 := hide (And.intro Y4 hown4)
        clear Y4 hown4 hgrow HR HX hr
        go_roundw
        case rel => exact ⟨k + 1, by omega, by go_num, B4.out.1, by rw [ET.out]; exact B4.out.2⟩
        case measure => simp [intOf]; omega
      · have e : k = ds.length := by omega
        subst e
        rw [List.take_length] at hrow
        obtain ⟨A', cp, rfl, hsl⟩ := IntSl.of_row hrow (by rw [List.length_map]; omega) (fun i hi => by
          rw [List.getElem_map]
          have := gmS_bd VV.out (ds[i]'(by simpa using hi))
          omega)
        have Z := hide (And.intro Y.1 hsl)
        clear Y hsl hrow
        go_wp2
        go_ret2
        exact ⟨Z.out.1, A', cp, by rw [E2.out, E.out]; rfl, by rw [E2.out]; exact Z.out.2⟩
set_option maxHeartbeats 1000000 in
theorem of_bad (s : Ser) (a : SerA) (ds : List Int) (B : Option Addr) (cd : Nat) (w : World) (hs : SerSl w s a) (hv : vS s = false) :
    Calls Try.prog 22 #[s.val a, .slice B ds.length cd] w (OfPost [] 1 w) := by
  obtain ⟨fr, st, l⟩ := s
  obtain ⟨A, c⟩ := a
  have X := (Own.start w).alloc #[.int .i64 fr, .int .i64 st, .slice A l.length c] 41
  have hr := X.r1
  have GV := hide (fun W (h : SerSl W ⟨fr, st, l⟩ ⟨A, c⟩) => gvalid_any ⟨fr, st, l⟩ ⟨A, c⟩ W h)
  rw [hv] at GV
  have HS := hide hs
  clear hs hv
  show Calls Try.prog 22 #[.agg #[.int .i64 fr, .int .i64 st, .slice A l.length c], .slice B ds.length cd] w _
  go_enter Try.func22, Try.ntmps22
  go_wp2_with fail
  refine (GV.out _ (HS.out.below X.1)).mono ?_
  rintro e w1 ⟨rfl, hb⟩
  replace X := X.to hb
  clear hb hr
  go_wp2
  go_ret2
  exact OfPost.nil rfl rfl X.1
end Go.Proofs.Ytjnifgheipmanaa
