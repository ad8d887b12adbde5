/- The program's Scale (layer 19) of a valid table, by numbers from 1 to a million: the table, or the error; nothing that was there is turned. -/
import Derived.Test.YtjnifgheipmanaaCvSc
import Derived.Deep.RegionWith
import Derived.Deep.DeepCutAuto
namespace Go.Proofs.Ytjnifgheipmanaa
open Go.RowKit

def scD (num den d : Int) : Int := d * num / den
def scT (T : Tab) (num den : Int) : Tab := ⟨T.ds, T.ps, T.rows.map fun r => r.map (scD num den)⟩
def scB (T : Tab) (num den : Int) : Bool := T.rows.any fun r => r.any fun d => decide (4194304 < scD num den d)
def ScPost (T : Tab) (num den : Int) (w : World) (e : Ending) (w' : World) : Prop := Below w.heap.size w w' ∧
  ((scB T num den = false ∧ ∃ a : TabA, e = .returned (.tuple #[(scT T num den).val a, .int .i64 0]) ∧ TabSl w' (scT T num den) a) ∨ (scB T num den = true ∧ e = .returned (.tuple #[.agg #[.slice none 0 0, .slice none 0 0, .slice none 0 0], .int .i64 5])))
theorem scB_yes {T : Tab} {num den : Int} {i k : Nat} (hi : i < T.rows.length) (hk : k < (T.rows.getD i []).length) (h : 4194304 < scD num den ((T.rows.getD i []).getD k 0)) : scB T num den = true := by
  unfold scB
  rw [List.any_eq_true]
  refine ⟨T.rows.getD i [], by simp [hi], ?_⟩
  rw [List.any_eq_true]
  generalize T.rows.getD i [] = r at *
  have e : r.getD k 0 = r[k] := by simp [List.getD_eq_getElem?_getD, List.getElem?_eq_getElem hk]
  rw [e] at h
  exact ⟨r[k], List.getElem_mem hk, decide_eq_true h⟩
theorem scB_no {T : Tab} {num den : Int} (h : ∀ i, i < T.rows.length → ∀ k, k < (T.rows.getD i []).length → ¬ 4194304 < scD num den ((T.rows.getD i []).getD k 0)) : scB T num den = false := by
  rcases Bool.eq_false_or_eq_true (scB T num den) with q | q
  · exfalso
    unfold scB at q
    rw [List.any_eq_true] at q
    obtain ⟨r, hr, hq⟩ := q
    rw [List.any_eq_true] at hq
    obtain ⟨d, hd, hq⟩ := hq
    obtain ⟨i, hi, rfl⟩ := List.mem_iff_getElem.1 hr
    obtain ⟨k, hk, rfl⟩ := List.mem_iff_getElem.1 hd
    have e1 : T.rows.getD i [] = T.rows[i] := by simp [hi]
    refine h i hi k (by rw [e1]; exact hk) ?_
    rw [e1]
    simpa [List.getD_eq_getElem?_getD, List.getElem?_eq_getElem hk] using hq
  · exact q
theorem scD_bd {num den d : Int} (hn : (1 ≤ num ∧ num ≤ 1000000) ∧ 1 ≤ den ∧ den ≤ 1000000) (hd : 0 ≤ d ∧ d ≤ 4194304) : 0 ≤ scD num den d ∧ scD num den d ≤ 4194304 * 1000000 := by
  have p0 : 0 ≤ d * num := Int.mul_nonneg hd.1 (by omega)
  have p1 : d * num ≤ 4194304 * 1000000 := Int.mul_le_mul hd.2 (by omega) (by omega) (by omega)
  have q0 : 0 ≤ d * num / den := Int.ediv_nonneg p0 (by omega)
  have q1 : d * num / den ≤ d * num := Int.ediv_le_self _ p0
  unfold scD; omega
theorem sc_row {T : Tab} {num den : Int} {i : Nat} (hi : i < T.rows.length) : (T.rows.map fun r => r.map (scD num den)).getD i [] = (T.rows.getD i []).map (scD num den) := by simp [hi]
theorem sc_i64 {T : Tab} {num den : Int} (v : VT T) (hn : (1 ≤ num ∧ num ≤ 1000000) ∧ 1 ≤ den ∧ den ≤ 1000000) : ∀ i, i < (T.rows.map fun r => r.map (scD num den)).length → I64L ((T.rows.map fun r => r.map (scD num den)).getD i []) := fun i hi => by
  rw [List.length_map] at hi
  rw [sc_row hi]
  have rw' := v.rw i (by have := v.rl; omega)
  have d2 := v.d2
  have cB := fun k (hk : k < T.ds.length) => v.cB i k (by have := v.rl; omega) hk
  unfold Tab.cell at cB
  generalize T.rows.getD i [] = r at *
  refine ⟨by rw [List.length_map]; omega, fun k hk => ?_⟩
  rw [List.length_map] at hk
  rw [List.getElem_map]
  have b := cB k (by omega)
  have e : r.getD k 0 = r[k] := by simp [List.getD_eq_getElem?_getD, List.getElem?_eq_getElem hk]
  rw [e] at b
  have := scD_bd hn b
  omega
theorem ints_info : (Try.prog.info? 22).map (fun i => (i.zero, i.size, i.bytes)) = some (some (.slice none 0 0), 1, 24) := by kernel_rfl
set_option maxRecDepth 100000 in
set_option maxHeartbeats 8000000 in
theorem scale_any (T : Tab) (a : TabA) (num den : Int) (w : World) (ht : TabSl w T a) (h1 : vT T = true) (hn : 1 ≤ num ∧ num ≤ 1000000) (hd : 1 ≤ den ∧ den ≤ 1000000) :
    Calls Try.prog 28 #[T.val a, .int .i64 num, .int .i64 den] w (ScPost T num den w) := by
  obtain ⟨A1, A2, A3, k1, k2, k3⟩ := a
  have v := of_vT h1
  have HTP := hide ht.parts
  obtain ⟨rb, ro, rfl, hrb, hrow⟩ := HTP.out.2.2.2 (by rw [v.rl]; exact v.p1)
  have HROW := hide hrow
  clear hrow
  have X := ((Own.start w).alloc #[.slice A1 T.ds.length k1, .slice A2 T.ps.length k2, .slice (some ⟨rb, ro, none⟩) T.rows.length k3] 25).alloc #[.slice none 0 0, .slice none 0 0, .slice none 0 0] 25
  simp only [World.size_alloc] at X
  have HT := hide ht
  have VT' := hide v
  have C1 := hide (fun W (h : IntSl W A1 T.ds) => clone_any T.ds A1 k1 W h v.d1 (by have := v.d2; omega))
  have C2 := hide (fun W (h : IntSl W A2 T.ps) => clone_any T.ps A2 k2 W h v.p1 (by have := v.p2; omega))
  have NN := hide (And.intro hn hd)
  have m1 : ¬ num < 1 := by omega
  have m2 : ¬ 1000000 < num := by omega
  have m3 : ¬ den < 1 := by omega
  have m4 : ¬ 1000000 < den := by omega
  clear ht v hn hd
  have hr := X.r2
  go_enter Try.func28, Try.ntmps28
  go_wp2_with fail
  refine (tvalid_any T ⟨A1, A2, some ⟨rb, ro, none⟩, k1, k2, k3⟩ _ (HT.out.below X.1)).mono ?_
  rintro e w1 ⟨rfl, hb⟩
  rw [h1]
  replace X := X.to hb
  clear hb hr
  have hr := X.r2
  have HX := hide X
  clear X
  go_wp2
  go_cut [8] (fun v8 wx => ∃ (b8 : Nat) (D P : Value), v8 = .pointer (some ⟨b8, 0, none⟩) ∧ Mk w wx b8 D P (.slice none 0 0) T.ds T.ps #[.slice A1 T.ds.length k1, .slice A2 T.ps.length k2, .slice (some ⟨rb, ro, none⟩) T.rows.length k3] #[.slice none 0 0, .slice none 0 0, .slice none 0 0] [] [])
  case first =>
    have hz1 := HX.out.r2.1.2.2
    have nz1 : ¬ w1.heap.size = w.heap.size := by omega
    have nz1' : ¬ w.heap.size = w1.heap.size := by omega
    have hr := HX.out.r2
    go_region_held3 (fun w' => w'.cell? ⟨w.heap.size, 0, none⟩ = some (.slice A1 T.ds.length k1) ∧ w'.cell? ⟨w.heap.size, 1, none⟩ = some (.slice A2 T.ps.length k2)) (go_keep) (first
      | (go_at_call 54; (first | (refine (C1.out _ (HTP.out.1.below HX.out.drew.1)).mono ?_; rintro e w2 ⟨aD, cD, rfl, hD, hb⟩; have HD := hide (row_base hD HX.out.drew.1.size); replace HX := hide (HX.out.drew.to hb)) | (refine (C1.out _ (HTP.out.1.below (HX.out.drew.alloc #[.slice none 0 0, .slice none 0 0, .slice none 0 0] 25).1)).mono ?_; rintro e w2 ⟨aD, cD, rfl, hD, hb⟩; have HD := hide (row_base hD (HX.out.drew.alloc #[.slice none 0 0, .slice none 0 0, .slice none 0 0] 25).1.size); replace HX : Hid (Own w w2 [(w1.heap.size, 25, #[.slice none 0 0, .slice none 0 0, .slice none 0 0]), (w.heap.size + 1, 25, #[.slice none 0 0, .slice none 0 0, .slice none 0 0]), (w.heap.size, 25, #[.slice A1 T.ds.length k1, .slice A2 T.ps.length k2, .slice (some ⟨rb, ro, none⟩) T.rows.length k3])]) := hide ((HX.out.drew.alloc #[.slice none 0 0, .slice none 0 0, .slice none 0 0] 25).to hb))); (first | (have hr := HX.out.r3; have q2 : w.heap.size + 1 < w2.heap.size := hr.2.1.2.2) | (have hr := HX.out.r2; have q2 : w.heap.size + 1 < w2.heap.size := hr.1.2.2)); have nz2 : ¬ w2.heap.size = w.heap.size := (by omega); have nz2' : ¬ w.heap.size = w2.heap.size := (by omega); clear hb hD)
      | (go_at_call 54; (first | (refine (C2.out _ (HTP.out.2.1.below HX.out.1)).mono ?_; rintro e w2 ⟨aP, cP, rfl, hP, hb⟩; have HP := hide (row_base hP HX.out.1.size); replace HX := hide (HX.out.to hb)) | (refine (C2.out _ (HTP.out.2.1.below (HX.out.alloc #[.slice none 0 0, .slice none 0 0, .slice none 0 0] 25).1)).mono ?_; rintro e w2 ⟨aP, cP, rfl, hP, hb⟩; have HP := hide (row_base hP (HX.out.alloc #[.slice none 0 0, .slice none 0 0, .slice none 0 0] 25).1.size); replace HX := hide ((HX.out.alloc #[.slice none 0 0, .slice none 0 0, .slice none 0 0] 25).to hb))); (first | (replace HD := hide (row_below HD.out hb)) | (replace HD := hide (row_below (HD.out.alloc (.cells #[.slice none 0 0, .slice none 0 0, .slice none 0 0] 25)) hb))); (first | (have hr := HX.out.r3) | (have hr := HX.out.r2)); clear hb hP))
    all_goals go_wp2_with fail
    all_goals go_meet
    all_goals exact ⟨_, _, _, rfl, by first | exact Mk.start_a HX.out HD.out HP.out (by omega) | exact Mk.start_b HX.out HD.out HP.out (by omega)⟩
  case rest =>
    clear hr HX C1 C2 HTP
    obtain ⟨b8, D, P, rfl, M0⟩ := hcut
    obtain ⟨i0, hi0, hz0, hz1, hz2⟩ := info_parts int_info19
    obtain ⟨j0, hj0, hy0, hy1, hy2⟩ := info_parts ints_info
    have hr := M0.own.r3
    have HM := hide M0
    clear M0
    go_wp2
    clear hr
    go_loopw [46] (fun v46 wr => ∃ (k : Nat) (V : Value) (VL : List Value), k ≤ T.rows.length ∧ v46 = .int .i64 (k : Int) ∧
      Mk w wr b8 D P V T.ds T.ps #[.slice A1 T.ds.length k1, .slice A2 T.ps.length k2, .slice (some ⟨rb, ro, none⟩) T.rows.length k3] #[.slice none 0 0, .slice none 0 0, .slice none 0 0] VL ((T.rows.take k).map fun r => r.map (scD num den)) ∧ Hid (∀ i, i < k → ∀ m, m < (T.rows.getD i []).length → ¬ 4194304 < scD num den ((T.rows.getD i []).getD m 0))) (fun v46 _ => T.rows.length - (intOf v46).toNat)
    case atStart => exact ⟨0, _, _, Nat.zero_le _, rfl, by simpa using HM.out, hide (fun _ h => by omega)⟩
    case round =>
      obtain ⟨k, V, VL, hk, rfl, M, hno⟩ := hrel
      clear HM
      by_cases hlt : k < T.rows.length
      · obtain ⟨R, c, q, hR, hRc⟩ := HROW.out k hlt
        have c0 := (M.own.1.cell (p := ⟨rb, ro + k, none⟩) hrb).trans q
        have rwk := VT'.out.rw k (by have := VT'.out.rl; omega)
        have cB := hide (fun m (hm : m < (T.rows.getD k []).length) => VT'.out.cB k m (by have := VT'.out.rl; omega) (by omega))
        have BIG := hide (fun m hm h => @scB_yes T num den k m hlt hm h)
        have d1 := VT'.out.d1
        have d2 := VT'.out.d2
        have rowE : (T.rows.take (k + 1)).map (fun r => r.map (scD num den)) = ((T.rows.take k).map fun r => r.map (scD num den)) ++ [(T.rows.getD k []).map (scD num den)] := by
          rw [List.take_succ_eq_append_getElem hlt, List.map_append]; simp [hlt]
        have lenE : ((T.rows.take k).map fun r => r.map (scD num den)).length = k := by simp; omega
        have ROWE := hide (And.intro rowE lenE)
        have NOE := hide (fun (h : ∀ m, m < (T.rows.getD k []).length → ¬ 4194304 < scD num den ((T.rows.getD k []).getD m 0)) i (hi : i < k + 1) => (by
          by_cases e : i = k
          · subst e; exact h
          · exact hno.out i (by omega) : ∀ m, m < (T.rows.getD i []).length → ¬ 4194304 < scD num den ((T.rows.getD i []).getD m 0)))
        obtain ⟨b2, o2, rfl, hb2, hat2⟩ := hR.atg (by omega)
        have HAT := hide (fun m (hm : m < (T.rows.getD k []).length) => (M.own.1.cell (p := ⟨b2, o2 + m, none⟩) hb2).trans (hat2 m hm))
        have hb2' : b2 < wr.heap.size := by have := M.own.1.size; omega
        have HM := hide M
        have hr := M.own.r3
        clear q hR hRc hat2 rowE lenE M hno
        have cB' : Hid (∀ m, m < (T.rows.getD k []).length → 0 ≤ (T.rows.getD k []).getD m 0 ∧ (T.rows.getD k []).getD m 0 ≤ 4194304) := hide (fun m hm => cB.out m hm)
        clear cB
        generalize T.rows.getD k [] = row at *
        have hrn : row.length ≤ 100 := by omega
        clear rwk
        obtain ⟨W0, e0⟩ : ∃ W0, W0 = wr := ⟨_, rfl⟩
        subst e0
        go_wp2
        clear hr c0
        go_loopw [11, 52] (fun v11 v52 wi => ∃ m : Nat, m ≤ row.length ∧ v52 = .int .i64 (m : Int) ∧ Below W0.heap.size W0 wi ∧ wi.ownsRow W0.heap.size 3 1 v11 m (((row.take m).map (scD num den)).map (Value.int .i64)) ∧
          Hid (∀ i, i < m → ¬ 4194304 < scD num den (row.getD i 0))) (fun _ v52 _ => row.length - (intOf v52).toNat)
        case atStart => exact ⟨0, Nat.zero_le _, rfl, Below.refl _ _, by simpa using World.ownsRow_nil _ _ _ _, hide (fun _ h => by omega)⟩
        case round =>
          obtain ⟨m, hm, rfl, hb, hrow, hnob⟩ := hrel
          by_cases hml : m < row.length
          · have c1 := (hb.cell (p := ⟨b2, o2 + m, none⟩) hb2').trans (HAT.out m hml)
            have bd := cB'.out m hml
            have TE : Hid (((row.take (m + 1)).map (scD num den)).map (Value.int .i64) = ((row.take m).map (scD num den)).map (Value.int .i64) ++ [.int .i64 (scD num den (row.getD m 0))]) := hide (by
              rw [List.take_succ_eq_append_getElem hml, List.map_append, List.map_append]; simp [hml])
            have BG := hide (fun h => BIG.out m hml h)
            have NB := hide (fun (h : ¬ 4194304 < scD num den (row.getD m 0)) i (hi : i < m + 1) => (by
              by_cases e : i = m
              · subst e; exact h
              · exact hnob.out i (by omega) : ¬ 4194304 < scD num den (row.getD i 0)))
            have nn := NN.out
            have p0 : 0 ≤ row.getD m 0 * num := Int.mul_nonneg bd.1 (by omega)
            have p1 : row.getD m 0 * num ≤ 4194304 * 1000000 := Int.mul_le_mul bd.2 (by omega) (by omega) (by omega)
            have q0 : 0 ≤ row.getD m 0 * num / den := Int.ediv_nonneg p0 (by omega)
            have q1 : row.getD m 0 * num / den ≤ row.getD m 0 * num := Int.ediv_le_self _ p0
            have s1 := IntWalk.i64_in (row.getD m 0 * num) (by omega)
            have s2 : (row.getD m 0 * num).tdiv den = scD num den (row.getD m 0) := Int.tdiv_eq_ediv_of_nonneg p0
            have s3 : IntKind.i64.wrap (scD num den (row.getD m 0)) = scD num den (row.getD m 0) := IntWalk.i64_in _ (by unfold scD; omega)
            have s4 := IntWalk.wrap64_in (row.getD m 0 * num) (by omega)
            have s5 : wrap64 (scD num den (row.getD m 0)) = scD num den (row.getD m 0) := IntWalk.wrap64_in _ (by unfold scD; omega)
            have s0 : (den == 0) = false := by simp; omega
            have s00 : ¬ den = 0 := by omega
            clear bd p0 p1 q0 q1 nn hnob
            generalize scD num den (row.getD m 0) = n at *
            generalize row.getD m 0 = d at *
            generalize ((row.take m).map (scD num den)).map (Value.int .i64) = RL at *
            have HB := hide hb
            have HR := hide hrow
            clear hb hrow
            by_cases big : 4194304 < n
            · have Y := HM.out.own.to HB.out
              have hr := Y.r3
              have E := hide (BG.out big)
              go_wp2
              exact bodyPost_ret (v := .tuple #[.agg #[.slice none 0 0, .slice none 0 0, .slice none 0 0], .int .i64 5]) (by simp [results, Try.results28, hr, go_sem]) rfl ⟨by have HX := Y.1; have hz := HX.size; go_grown, .inr ⟨E.out, rfl⟩⟩
            · have E := hide (NB.out big)
              go_wp2_with (at_builtin; refine wpList_append_own _ rfl _ _ 22 rfl W0.heap.size 3 i0 (.int .i64 0) 1 8 Try.underlying22 hi0 hz0 hz1 hz2 rfl (by decide) _ m RL rfl (HR.out.alloc (.cells #[.int .i64 n] 3)) ⟨wr.heap.size, 0, none⟩ 1 1 [.int .i64 n] rfl rfl (World.news_of_block (cs := #[.int .i64 n]) (t := 3) (fr := (0, 0)) (heap_new_at19 (by rfl))) (by simp [Value.oneCell']) (by unfold maxLen; omega) (by omega) (by have := HB.out.size; simp; omega) ?_; intro v4 w4 hown4 hgrow _)
              have B5 : Below W0.heap.size W0 w4 := (HB.out.alloc HB.out.size (.cells #[.int .i64 n] 3)).grown hgrow (by have := HB.out.size; simp; omega) (fun k hk => ((HR.out.alloc (.cells #[.int .i64 n] 3)).lt k hk).1)
              have B4 := hide (And.intro B5 hown4)
              clear B5 hown4 hgrow
              go_roundw
              case rel => exact ⟨m + 1, by omega, by go_num, B4.out.1, by rw [TE.out]; exact B4.out.2, E⟩
              case measure => simp [intOf]; omega
          · have e : m = row.length := by omega
            subst e
            rw [List.take_length] at hrow
            have HM2 := HM.out.to hb
            have hx1 := row_base hrow HM.out.own.1.size
            obtain ⟨R', c', rfl, _⟩ := row_slice2 hrow
            have hx0 : IR wr w.heap.size (.slice R' row.length c') (row.map (scD num den)) := by
              unfold IR
              rw [List.length_map]
              exact hx1
            have hv : wr.ownsRow w.heap.size 22 1 V k VL := by have := HM2.v; rwa [ROWE.out.2] at this
            have p2 := VT'.out.p2
            have rl := VT'.out.rl
            have HV := hide hv
            have HM3 := hide (HM2.to ((Below.refl _ wr).alloc (Nat.le_refl _) (.cells #[.slice R' row.length c'] 22)))
            have HX := hide (hx0.alloc (.cells #[.slice R' row.length c'] 22))
            have E := hide (NOE.out (fun i hi => by have := hnob.out i hi; omega))
            have hr := HM2.own.r3
            clear hrow hb hnob hv hx0 hx1 HM2
            have f1 : k + 1 ≤ maxLen := by unfold maxLen; omega
            have f2 : (k + 1) * 24 ≤ 140737488355328 := by omega
            have f3 : w.heap.size ≤ (wr.alloc (.cells #[.slice R' row.length c'] 22)).heap.size := by have := HM3.out.own.1.size; exact this
            have f4 : ∀ u ∈ [Value.slice R' row.length c'], u.oneCell' = true := by simp [Value.oneCell']
            have LE := hide ROWE.out.2
            clear p2 rl
            go_wp2_with (at_builtin; refine wpList_append_lies _ rfl _ _ 23 rfl w.heap.size 22 j0 (.slice none 0 0) 1 24 Try.underlying23 hj0 hy0 hy1 hy2 rfl (by decide) _ k VL rfl (HV.out.alloc (.cells #[.slice R' row.length c'] 22)) ⟨wr.heap.size, 0, none⟩ 1 1 [.slice R' row.length c'] rfl rfl (World.news_of_block (cs := #[.slice R' row.length c']) (t := 22) (fr := (0, 0)) (heap_new_at19 (by rfl))) f4 (by decide) f1 f2 f3 (wr.heap.size + 1) (by simp) ?_; intro gg cp w4 hown4 hgrow hat4 hlt4; have hr4 := (HM3.out.own.grown HM3.out.v hgrow (by simp)).r3)
            have M5 := hide (HM3.out.app HX.out (by rw [LE.out]; exact hown4) hgrow)
            clear hown4 hgrow
            go_roundw
            case rel => exact ⟨k + 1, _, _, by omega, by go_num, by rw [ROWE.out.1]; exact M5.out, hide (fun i hi m hm => by have := E.out i hi m hm; omega)⟩
            case measure => simp [intOf]; omega
      · have e : k = T.rows.length := by omega
        subst e
        rw [List.take_length] at M
        have M1 := ((M.res 0 D).res 1 P).res 2 V
        have NB := hide (scB_no (fun i hi m hm => hno.out i hi m hm))
        have p2 := VT'.out.p2
        have rl := VT'.out.rl
        obtain ⟨a', eD, eP, eV, ht'⟩ := M1.tab HT.out.1.1 HT.out.2.1.1 (sc_i64 VT'.out NN.out) (by rw [List.length_map]; unfold maxLen; omega)
        rw [List.length_map] at eV
        subst eD eP eV
        have HT' := hide ht'
        have Y := M.own
        have hr := Y.r3
        clear M M1 ht' hno rl p2
        go_wp2
        exact bodyPost_ret (v := .tuple #[.agg #[.slice a'.A1 T.ds.length a'.c1, .slice a'.A2 T.ps.length a'.c2, .slice a'.A3 T.rows.length a'.c3], .int .i64 0]) (by simp [results, Try.results28, hr, go_sem]) rfl ⟨by have HX := Y.1; have hz := HX.size; go_grown, .inl ⟨NB.out, a', by simp [scT], HT'.out⟩⟩
end Go.Proofs.Ytjnifgheipmanaa
