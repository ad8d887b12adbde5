/- The reference's Of (layer 19): the greatest sums of a valid record for some durations, or the error; nothing that was there is turned. -/
import Derived.Test.YtjnifgheipmanaaRcOf
import Derived.Deep.AppendLies
namespace Go.Proofs.Ytjnifgheipmanaa
open Go.RowKit

theorem keeps_alloc19 (W : World) : ∀ o b i v, W.cell? ⟨b, i, none⟩ = some v → (W.alloc o).cell? ⟨b, i, none⟩ = some v := fun o b i v hc => by
  rw [World.cell?_alloc_lt _ _ _ (lt_of_cell hc)]
  exact hc
theorem ofE_no {s : Ser} {ds : List Int} (h : ¬ 100 < ds.length) {k : Nat} (hk : k < ds.length) (hl : lastB s ds[k] = false) : ofE s ds = 2 := by
  unfold ofE
  rw [if_neg h, if_neg]
  intro h2
  have := List.all_eq_true.1 h2 ds[k] (List.getElem_mem hk)
  rw [hl] at this; cases this
theorem ofE_yes {s : Ser} {ds : List Int} (h : ¬ 100 < ds.length) (hl : ∀ i (hi : i < ds.length), lastB s ds[i] = true) : ofE s ds = 0 := by
  unfold ofE
  rw [if_neg h, if_pos]
  exact List.all_eq_true.2 fun x hx => by
    obtain ⟨i, hi, rfl⟩ := List.mem_iff_getElem.1 hx
    exact hl i hi
theorem gmS_rm {s : Ser} {d : Int} (h1 : 1 ≤ kkS s d) (h2 : kkS s d ≤ s.ds.length) : gmS s d = rm s.ds (kkS s d) s.ds.length := gm_eq _ _ h1 _ h2
set_option maxRecDepth 100000 in
set_option maxHeartbeats 8000000 in
theorem rof_any (s : Ser) (a : SerA) (ds : List Int) (B : Option Addr) (cd : Nat) (w : World) (hs : SerSl w s a) (hd : IntSl w B ds) (hv : vS s = true) :
    Calls Try.prog 25 #[s.val a, .slice B ds.length cd] w (OfPost (ofL s ds) (ofE s ds) w) := by
  obtain ⟨fr, st, l⟩ := s
  obtain ⟨A, c⟩ := a
  have X := (Own.start w).alloc #[.int .i64 fr, .int .i64 st, .slice A l.length c] 41
  have hr := X.r1
  have hlen : ds.length ≤ 9223372036854775807 := hd.1.1
  have v := vS_iff.1 hv
  have VV := hide v
  have HS := hide hs
  have HD := hide hd
  have s1 : 1 ≤ st := v.st.1
  have s0 : (st == 0) = false := by simp; omega
  have s00 : ¬ st = 0 := by omega
  clear hs hd hv v s1
  show Calls Try.prog 25 #[.agg #[.int .i64 fr, .int .i64 st, .slice A l.length c], .slice B ds.length cd] w _
  by_cases h100 : 100 < ds.length
  · have E := hide (show ofE ⟨fr, st, l⟩ ds = 4 by unfold ofE; rw [if_pos h100])
    have E2 := hide (show ofL ⟨fr, st, l⟩ ds = [] by unfold ofL; rw [E.out]; rfl)
    go_enter Try.func25, Try.ntmps25
    go_wp2
    go_ret2
    exact OfPost.nil E2.out E.out X.1
  · have h100' : decide (100 < ds.length) = false := decide_eq_false h100
    have H100 := hide h100
    obtain ⟨i0, hi0, hz0, hz1, hz2⟩ := info_parts int_info19
    have h101 : ds.length ≤ 100 := by omega
    clear h100
    go_enter Try.func25, Try.ntmps25
    go_wp2
    clear hr
    have XH := hide X
    clear X
    go_loopw [6, 7] (fun v6 v7 wr => ∃ k : Nat, k ≤ ds.length ∧ v7 = .int .i64 (k : Int) ∧
      Own w wr [(w.heap.size, 41, #[.int .i64 fr, .int .i64 st, .slice A l.length c])] ∧ wr.ownsRow w.heap.size 3 1 v6 k (((ds.take k).map (gmS ⟨fr, st, l⟩)).map (Value.int .i64)) ∧ Hid (∀ i (hi : i < ds.length), i < k → lastB ⟨fr, st, l⟩ ds[i] = true)) (fun _ v7 _ => ds.length - (intOf v7).toNat)
    case atStart => exact ⟨0, Nat.zero_le _, rfl, XH.out, by simpa using World.ownsRow_nil _ _ _ _, hide (fun _ _ h => by omega)⟩
    case round =>
      obtain ⟨k, hk, rfl, Y, hrow, hno⟩ := hrel
      by_cases hlt : k < ds.length
      · obtain ⟨b, off, rfl, hbl, hat⟩ := HD.out.2 (by omega)
        have cw := hat k hlt
        have c0 := (Y.1.cell (p := ⟨b, off + k, none⟩) hbl).trans cw
        have rd := HD.out.1.2 k hlt
        have n0 : (0 : Int) ≤ (k : Int) := by omega
        have n1 : (k : Int) < (ds.length : Int) := by omega
        have L := hide (fun W => rlasts_any ⟨fr, st, l⟩ ⟨A, c⟩ ds[k] W VV.out.st VV.out.le rd)
        have hr := Y.r1
        have HX := hide Y
        have HR := hide hrow
        have NO := hide (fun h => ofE_no (s := ⟨fr, st, l⟩) H100.out hlt h)
        have STEP := hide (fun (h : lastB ⟨fr, st, l⟩ ds[k] = true) i (hi : i < ds.length) (hik : i < k + 1) => (by
          by_cases e : i = k
          · subst e; exact h
          · exact hno.out i hi (by omega) : lastB ⟨fr, st, l⟩ ds[i] = true))
        have LK := hide (fun (h : lastB ⟨fr, st, l⟩ ds[k] = true) => lastB_k (s := ⟨fr, st, l⟩) VV.out.st.1 h)
        have ET : Hid (((ds.take (k + 1)).map (gmS ⟨fr, st, l⟩)).map (Value.int .i64) = ((ds.take k).map (gmS ⟨fr, st, l⟩)).map (Value.int .i64) ++ [.int .i64 (gmS ⟨fr, st, l⟩ ds[k])]) := hide (by
          rw [List.take_succ_eq_append_getElem hlt, List.map_append, List.map_append]; rfl)
        clear hat rd Y hrow
        generalize ds[k] = d at *
        generalize ((ds.take k).map (gmS ⟨fr, st, l⟩)).map (Value.int .i64) = R at *
        go_wp2_with fail
        go_region_held3 (fun w' => w'.cell? ⟨w.heap.size, 0, none⟩ = some (.int .i64 fr) ∧ w'.cell? ⟨w.heap.size, 1, none⟩ = some (.int .i64 st) ∧ w'.cell? ⟨w.heap.size, 2, none⟩ = some (.slice A l.length c) ∧ w'.cell? ⟨b, off + k, none⟩ = some (.int .i64 d)) (go_keep)
          ((go_at_call 52; refine (L.out _).mono ?_; rintro e w3 ⟨rfl, hb⟩; (first | (replace HX := hide (HX.out.to hb); replace HR := hide (row_below HR.out hb)) | (replace HX := hide (HX.out.drew.to hb); replace HR := hide (row_below (row_drew HR.out) hb))); have hkk := keeps hb; clear hb))
        rcases Bool.eq_false_or_eq_true (lastB ⟨fr, st, l⟩ d) with la | la
        rotate_left
        · rw [la]
          have E := hide (NO.out la)
          have E2 := hide (show ofL ⟨fr, st, l⟩ ds = [] by unfold ofL; rw [E.out]; rfl)
          go_wp2
          go_ret2
          exact OfPost.nil E2.out E.out HX.out.1
        · rw [la]
          have cW := hkk b (off + k) (.int .i64 d) c0
          obtain ⟨k1, k2, k3⟩ := LK.out la
          have k3' : d.tdiv st = (kkS ⟨fr, st, l⟩ d : Int) := k3
          have k2' : kkS ⟨fr, st, l⟩ d ≤ l.length := k2
          have le : l.length ≤ 10000 := VV.out.le
          have k4 : IntKind.i64.wrap (kkS ⟨fr, st, l⟩ d : Int) = (kkS ⟨fr, st, l⟩ d : Int) := IntWalk.i64_in _ (by omega)
          have G := hide (fun (W : World) (h : SerSl W ⟨fr, st, l⟩ ⟨A, c⟩) => rgreatest_any l A c (kkS ⟨fr, st, l⟩ d) W h.1 VV.out.le VV.out.ok k1 k2)
          rw [gmS_rm k1 k2] at ET
          have E := hide (STEP.out la)
          clear k1 k2 k3 k2' le la STEP NO LK L hr hkk
          generalize hg : rm l (kkS ⟨fr, st, l⟩ d) l.length = g at *
          generalize hw3 : w3 = W at *
          have HG := hide (And.intro hg hw3)
          clear hg hw3
          generalize kkS ⟨fr, st, l⟩ d = m at *
          have hr := HX.out.r1
          have hbW := lt_of_cell cW
          have c4 := hide (fun (W' : World) (hB : Below w.heap.size w W') => (hB.cell (p := ⟨b, off + k, none⟩) hbl).trans cw)
          have NE := World.new_ne W ⟨b, off + k, none⟩ cW
          have KA := keeps_alloc19 W
          have KB : ∀ o b i v, W.cell? ⟨b, i, none⟩ = some v → (W.drew.alloc o).cell? ⟨b, i, none⟩ = some v := fun o b i v h => keeps_alloc19 W.drew o b i v h
          have KC : ∀ o b i v, W.cell? ⟨b, i, none⟩ = some v → (W.alloc o).drew.cell? ⟨b, i, none⟩ = some v := fun o b i v h => keeps_alloc19 W o b i v h
          have f1 : k + 1 ≤ maxLen := by unfold maxLen; omega
          have f2 : (k + 1) * 8 ≤ 140737488355328 := by omega
          have f3 : w.heap.size ≤ ((W.alloc (.cells #[.int .i64 g] 3)).drew).heap.size := by have := HX.out.1.size; simp; omega
          have f4 : ∀ u ∈ [Value.int .i64 g], u.oneCell' = true := by simp [Value.oneCell']
          have f5 := hide (row_drew (HR.out.alloc (.cells #[.int .i64 g] 3)))
          go_wp2_with fail
          go_region_held3 (fun w' => w'.cell? ⟨w.heap.size, 1, none⟩ = some (.int .i64 st) ∧ w'.cell? ⟨w.heap.size, 2, none⟩ = some (.slice A l.length c) ∧ w'.cell? ⟨b, off + k, none⟩ = some (.int .i64 d)) (go_keep)
            (first
              | (go_at_call 53; (first | refine (G.out _ (HS.out.below HX.out.1)).mono ?_ | refine (G.out _ (HS.out.below HX.out.drew.1)).mono ?_ | refine (G.out _ (HS.out.below HX.out.drew.drew.1)).mono ?_); rintro e w4 ⟨rfl, rfl⟩)
              | (refine step_append_lies _ (by rfl) _ _ _ (by rfl) w.heap.size 3 i0 _ 1 8 Try.underlying22 hi0 hz0 hz1 hz2 rfl (by omega) _ k R (by rfl) f5.out ⟨W.heap.size, 0, none⟩ 1 1 [.int .i64 g] (by rfl) (by rfl) (World.news_of_block (cs := #[.int .i64 g]) (t := 3) (fr := (0, 0)) (heap_alloc_new W _)) f4 (by omega) f1 f2 f3 (W.heap.size + 1) (by simp) ?_; intro gg cp w4 hown4 hgrow hat4 hlt4; have Y4 := (HX.out.alloc #[.int .i64 g] 3).drew.tail.grown f5.out hgrow (by simp); have hr6 := Y4.r1; have hc6 := c4.out _ Y4.1))
          go_wp2
          go_roundw
          case rel => exact ⟨k + 1, by omega, by go_num, Y4, by rw [ET.out]; exact hown4, E⟩
          case measure => simp [intOf]; omega
      · have e : k = ds.length := by omega
        subst e
        have E := hide (ofE_yes (s := ⟨fr, st, l⟩) H100.out (fun i hi => hno.out i hi hi))
        have E2 := hide (show ofL ⟨fr, st, l⟩ ds = ds.map (gmS ⟨fr, st, l⟩) by unfold ofL; rw [E.out]; rfl)
        rw [List.take_length] at hrow
        obtain ⟨A', cp, rfl, hsl⟩ := IntSl.of_row hrow (by rw [List.length_map]; omega) (fun i hi => by
          rw [List.getElem_map]
          have := gmS_bd VV.out (ds[i]'(by simpa using hi))
          omega)
        have Z := hide (And.intro Y.1 hsl)
        clear hsl hrow
        have hr := Y.r1
        clear Y
        go_wp2
        go_ret2
        exact ⟨Z.out.1, A', cp, by rw [E2.out, E.out]; rfl, by rw [E2.out]; exact Z.out.2⟩
end Go.Proofs.Ytjnifgheipmanaa
