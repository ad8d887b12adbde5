/- Parts of one proof, joined: The program's Parse of a record: what it returns; nothing that was there is turned. (Printed by gen_ggp.py.). The program's Coarser of records, for factors that divide the number of depths, where no sum is too great: what it returns; nothing that was there is turned. slices.Repeat of one integer: a row of the call's own that holds it k times; nothing that was there is turned. -/
import Derived.Test.YtkjndkeboeieoaaGreatDoorPkGaugeBack7
import Derived.Test.YtkjndkeboeieoaaGreatDoorPkGaugeBack8
import Derived.Test.YtkjndkeboeieoaaGreatDoorPkGaugeBack5
import Derived.Test.YtkjndkeboeieoaaGreatDoorPkGaugeBack4
import Derived.Test.YtkjndkeboeieoaaGreatDoorShelf4
import Derived.Laws.CopyOwn
import Derived.Deep.RegionLaw
namespace Go.Proofs.YtkjndkeboeieoaaGreatDoor
open Go Go.RowKit Go.Shelf

attribute [local go_sem] Oper.semAt_some

def colG (n : Int) : Int := if n = 0 then 0 else 1
def PgPost (s : List UInt8) (w : World) (e : Ending) (w' : World) : Prop :=
  Below w.heap.size w w' ∧ ∃ a : SerA, e = .returned (.tuple #[(prG s).1.val a, .agg #[.int .i64 (prG s).2.1, .int .i64 (colG (prG s).2.1)], .int .i64 (prG s).2.2]) ∧ SerSl w' (prG s).1 a
theorem ser0 (w : World) : SerSl w S0 ⟨none, 0⟩ := ⟨IntSl.nil _ _, Nat.le_refl _, by decide, by decide⟩
theorem PgPost.err {s : List UInt8} {w w' : World} {ln er : Int} (hb : Below w.heap.size w w') (h : prG s = (S0, ln, er)) : PgPost s w (.returned (.tuple #[.agg #[.int .i64 0, .int .i64 0, .slice none 0 0], .agg #[.int .i64 ln, .int .i64 (colG ln)], .int .i64 er])) w' :=
  ⟨hb, ⟨none, 0⟩, by rw [h]; rfl, by rw [h]; exact ser0 _⟩
theorem PgPost.bad {s : List UInt8} {w w' : World} {n : Nat} (hb : Below w.heap.size w w') (h : prG s = (S0, (n : Int) + 1, 7)) : PgPost s w (.returned (.tuple #[.agg #[.int .i64 0, .int .i64 0, .slice none 0 0], .agg #[.int .i64 ((n : Int) + 1), .int .i64 1], .int .i64 7])) w' := by
  have e : colG ((n : Int) + 1) = 1 := by unfold colG; rw [if_neg (by omega)]
  have := PgPost.err hb h
  rw [e] at this
  exact this
theorem Gp.ser {w W : World} {B : Nat} {R : List (Nat × TypeId × Array Value)} {v : Value} {fr st : Int} {L : List Int} (h : Gp w W B R v L) (hL : ∀ n ∈ L, depR n) (hf : -68719476736 ≤ fr ∧ fr ≤ 68719476736) (hs : 0 ≤ st ∧ st < 1000000000000000) (hn : L.length ≤ 100000000) :
    ∃ A c, v = .slice A L.length c ∧ SerSl W ⟨fr, st, L⟩ ⟨A, c⟩ := by
  obtain ⟨A, c, e, hi⟩ := IntSl.of_row h.row (by omega) (fun i hi => by have := hL _ (List.getElem_mem hi); unfold depR at this; omega)
  obtain ⟨A', c', e', hc⟩ := row_anyG h.row
  rw [e] at e'
  injection e' with e1 _ e3
  subst e1 e3
  exact ⟨A, c, e, hi, hc, ⟨by show _ ≤ fr; omega, by show fr ≤ _; omega⟩, ⟨by show _ ≤ st; omega, by show st ≤ _; omega⟩⟩
theorem stG_end {n : Nat} {a : Ser} {x : List UInt8} {la : Bool} (h : endB x = false) : stG n a x la = none := by unfold stG; rw [if_neg (by rw [h]; decide)]
theorem stG_hd {a : Ser} {x : List UInt8} {la : Bool} (h : endB x = true) : stG 0 a x la = (match hdO (bodyL x) with | some p => some ⟨p.1, p.2, []⟩ | none => none) := by unfold stG; rw [if_pos h, if_pos rfl]; cases hdO (bodyL x) <;> rfl
theorem stG_dp {n : Nat} {a : Ser} {x : List UInt8} {la : Bool} (h : endB x = true) (hn : n ≠ 0) : stG n a x la = if dpB (bodyL x) = true ∧ ((dpL (bodyL x)).length = 12 ∨ la = true) then some ⟨a.fr, a.st, a.ds ++ dpL (bodyL x)⟩ else none := by
  unfold stG; rw [if_pos h, if_neg hn]
theorem prGL_none {n : Nat} {a : Ser} {x : List UInt8} {r : List (List UInt8)} (h : stG n a x r.isEmpty = none) : prGL (x :: r) n a = (S0, (n : Int) + 1, 7) := by rw [prGL, h]
theorem prGL_some {n : Nat} {a a' : Ser} {x : List UInt8} {r : List (List UInt8)} (h : stG n a x r.isEmpty = some a') : prGL (x :: r) n a = prGL r (n + 1) a' := by rw [prGL, h]
set_option maxRecDepth 100000 in
set_option maxHeartbeats 4000000 in
theorem ggparse_any (s : List UInt8) (w : World) (hs : s.length ≤ 900000) (ht : TxtW w) : Calls Tryz.prog 10 #[strV s] w (PgPost s w) := by
  have HT := hide ht
  clear ht
  have hs2 : (⟨s.toArray⟩ : ByteArray).size = s.length := by simp [ByteArray.size]
  have X := (((Own.start w).alloc #[.int .i64 0, .int .i64 0, .slice none 0 0] 24).alloc #[.int .i64 0, .int .i64 0] 34).alloc #[.int .i64 0] 27
  simp only [World.size_alloc] at X
  have hr := X.r3
  by_cases hbig : 262144 < s.length
  · have E : Hid (prG s = (S0, 0, 4)) := hide (by unfold prG; rw [if_pos hbig])
    have q1 : decide ((262144 : Int) < (s.length : Int)) = true := decide_eq_true (by omega)
    clear hbig
    go_enter Tryz.func10, Tryz.ntmps10
    go_wp2
    exact bodyPost_ret (v := .tuple #[.agg #[.int .i64 0, .int .i64 0, .slice none 0 0], .agg #[.int .i64 0, .int .i64 0], .int .i64 4]) (by simp [results, Tryz.results10, go_sem]) rfl (PgPost.err (by have HX := X.1; have hz := HX.size; go_grown) E.out)
  have q1 : decide ((262144 : Int) < (s.length : Int)) = false := decide_eq_false (by omega)
  have EF : Hid (prG s = prGL (lns s) 0 S0) := hide (by unfold prG; rw [if_neg hbig])
  have sl : s.length ≤ 262144 := by omega
  clear hbig
  refine (callsIn_wide (n := 4)).1 ?_
  refine callsIn_of_wp_marks Tryz.func10 rfl trivial ?_ rfl
  simp only [Tryz.ntmps10, List.size_toArray, List.length_cons, List.length_nil, Nat.reduceAdd, Nat.reduceSub, Array.replicate_succ, Array.replicate_zero, List.push_toArray, List.append_toArray, List.nil_append, List.cons_append]
  gi_wp2_with fail
  refine ⟨trivial, (callsIn_wide.2 (lines_any s _)).mono ?_⟩
  rintro e w1 ⟨rfl, rfl⟩
  replace X := (((X.alloc #[.int .i64 0, .int .i64 0, .slice none 0 0] 24).alloc #[.int .i64 (s.length : Int)] 3).alloc #[.int .i64 0] 3).alloc #[strV s] 9
  simp only [World.size_alloc] at X
  clear hr
  gi_wp2
  generalize hW : (((((((w.alloc (.cells #[.int .i64 0, .int .i64 0, .slice none 0 0] 24)).alloc (.cells #[.int .i64 0, .int .i64 0] 34)).alloc (.cells #[.int .i64 0] 27)).alloc (.cells #[.int .i64 0, .int .i64 0, .slice none 0 0] 24)).alloc (.cells #[.int .i64 (s.length : Int)] 3)).alloc (.cells #[.int .i64 0] 3)).alloc (.cells #[strV s] 9)) = W at *
  have hWs : W.heap.size = w.heap.size + 7 := by rw [← hW]; simp
  clear hW
  have BX : Blk W (w.heap.size + 1 + 1 + 1 + 1 + 1 + 1) 9 #[strV s] := X.2 (_, _, _) (List.mem_cons_self ..)
  have LF : ((lns s).drop 0).flatten.length = s.length := by rw [List.drop_zero, lns_flat]
  have G0 : Gp w W W.heap.size (RG w.heap.size (s.length : Int) 0 0 0 (.slice none 0 0) zSer zPos 0) (.slice none 0 0) [] := by
    refine ⟨X.tail, ⟨Nat.le_refl _, X.1.size⟩, fun x hx => ?_, World.ownsRow_nil _ _ _ _⟩
    simp only [RG, List.mem_cons, List.not_mem_nil, or_false] at hx
    rcases hx with rfl | rfl | rfl | rfl | rfl | rfl
    all_goals (dsimp only; omega)
  have GH := hide G0
  clear X G0
  have LN := hide (fun x hx => lns_len (s := s) x hx)
  have NEL := hide (lns_ne s)
  have LL := lns_length s
  have LFL := hide (lns_flat s)
  obtain ⟨i0, hi0, hz0, hz1, hz2⟩ := info_parts int_info17
  refine' rangeFunc_box rfl (by decide) (gf := 58) (lb := #[.pointer (some ⟨w.heap.size + 1 + 1 + 1 + 1 + 1 + 1, 0, none⟩)]) rfl trivial (enters_of Tryz.func58 (by kernel_rfl) rfl)
    (encs := fun x : List UInt8 => #[strV x]) (Bs := w.heap.size + 1 + 1 + 1 + 1 + 1 + 1) (L := lns s) (lines_gives 3 (by decide) _ s (by omega) W BX) BX.lt (fun _ => rfl)
    (fun pre W' => pre <+: lns s ∧ ∃ (a : Ser) (v : Value), Gp w W' W.heap.size (RG w.heap.size ((((lns s).drop pre.length).flatten.length : Nat) : Int) ((pre.length : Nat) : Int) a.fr a.st v zSer zPos 0) v a.ds ∧ prGL (lns s) 0 S0 = prGL ((lns s).drop pre.length) pre.length a ∧
      (∀ n ∈ a.ds, depR n) ∧ (-68719476736 ≤ a.fr ∧ a.fr ≤ 68719476736) ∧ (0 ≤ a.st ∧ a.st < 1000000000000000) ∧ a.ds.length ≤ 12 * pre.length)
    (fun c _ W' => c = .ret ∧ ∃ (k : Nat) (left fr st : Int) (v : Value) (L : List Int), prGL (lns s) 0 S0 = (S0, (k : Int) + 1, 7) ∧ Gp w W' W.heap.size (RG w.heap.size left ((k : Int) + 1) fr st v zSer #[.int .i64 ((k : Int) + 1), .int .i64 1] 7) v L)
    (fun _ A B row hs hg hr => by obtain ⟨h1, a, v, h2, h3⟩ := hs; exact ⟨h1, a, v, h2.turn hg hr, h3⟩)
    (fun _ _ A B row hs hg hr => by obtain ⟨h1, k, left, fr, st, v, L, h2, h6⟩ := hs; exact ⟨h1, k, left, fr, st, v, L, h2, h6.turn hg hr⟩)
    (fun _ A B hs hg => by
      obtain ⟨h1, a, v, h2, h3⟩ := hs
      exact ⟨h1, a, v, h2.box hg (by omega) (by omega) (fun x hx => by
        simp only [RG, List.mem_cons, List.not_mem_nil, or_false] at hx
        rcases hx with rfl | rfl | rfl | rfl | rfl | rfl
        all_goals (show (_ : Nat) ≠ _; omega)), h3⟩)
    (fun _ _ A B hs hg => by
      obtain ⟨h1, k, left, fr, st, v, L, h2, h6⟩ := hs
      exact ⟨h1, k, left, fr, st, v, L, h2, h6.box hg (by omega) (by omega) (fun x hx => by
        simp only [RG, List.mem_cons, List.not_mem_nil, or_false] at hx
        rcases hx with rfl | rfl | rfl | rfl | rfl | rfl
        all_goals (show (_ : Nat) ≠ _; omega))⟩)
    ⟨⟨lns s, rfl⟩, S0, .slice none 0 0, by rw [show ([] : List (List UInt8)).length = 0 from rfl, LF]; exact GH.out, rfl, fun n hn => by simp at hn, by decide, by decide, by simp⟩
    _ ?assign ?body ?done ?stop
  case assign =>
    intro l x W K hK
    gi_wp2
    exact hK
  case body =>
    rintro l' pre x W' hpre ⟨_, ⟨fr, st, ds⟩, v, Y, hp, hdep, hfr, hst, hdl⟩
    dsimp only at Y hdep hfr hst hdl
    obtain ⟨Av, cv, rfl, -⟩ := row_anyG Y.row
    have hxm : x ∈ lns s := hpre.subset (by simp)
    have lx := LN.out x hxm
    have lb := body_len x
    have hdr : (lns s).drop pre.length = x :: (lns s).drop (pre.length + 1) := by
      obtain ⟨t, ht⟩ := hpre
      rw [← ht]
      simp
    have hlen : pre.length + 1 ≤ s.length + 1 := by
      have := hpre.length_le
      simp at this
      omega
    rw [hdr] at hp
    have nl : ((lns s).drop pre.length).flatten.length = x.length + ((lns s).drop (pre.length + 1)).flatten.length := by rw [hdr]; simp
    have hlb : ((lns s).drop pre.length).flatten.length ≤ 262144 := by
      have h1 : ((lns s).take pre.length).flatten.length + ((lns s).drop pre.length).flatten.length = s.length := by
        rw [← List.length_append, ← List.flatten_append, List.take_append_drop, LFL.out]
      omega
    have la0 : ((((lns s).drop (pre.length + 1)).flatten.length : Int) == 0) = ((lns s).drop (pre.length + 1)).isEmpty := by
      cases hd : (lns s).drop (pre.length + 1) with
      | nil => rfl
      | cons y u =>
        have hy : y ∈ lns s := List.mem_of_mem_drop (by rw [hd]; exact List.mem_cons_self ..)
        have := List.length_pos_iff.2 (NEL.out y hy)
        simp
        omega
    have STN := hide (fun (h : stG pre.length ⟨fr, st, ds⟩ x ((lns s).drop (pre.length + 1)).isEmpty = none) => (show prGL (lns s) 0 S0 = (S0, (pre.length : Int) + 1, 7) from hp.trans (prGL_none h)))
    have STS := hide (fun a' (h : stG pre.length ⟨fr, st, ds⟩ x ((lns s).drop (pre.length + 1)).isEmpty = some a') => (show prGL (lns s) 0 S0 = prGL ((lns s).drop (pre.length + 1)) (pre.length + 1) a' from hp.trans (prGL_some h)))
    have PRE := hide hpre
    have DEP := hide hdep
    have AB := hide (And.intro hfr hst)
    obtain ⟨lf, hlf⟩ : ∃ lf : Int, lf = ((((lns s).drop pre.length).flatten.length : Nat) : Int) := ⟨_, rfl⟩
    rw [← hlf] at Y
    have YH := hide Y
    have HPL : Hid ((pre ++ [x]).length = pre.length + 1) := hide (by simp)
    generalize hr0 : ((lns s).drop (pre.length + 1)).isEmpty = la at *
    generalize hr1 : ((lns s).drop (pre.length + 1)).flatten.length = lr at *
    have HR1 := hide hr1
    have s2 : IntKind.i64.wrap (lf - (x.length : Int)) = (lr : Int) := (IntWalk.i64_in _ (by omega)).trans (by omega)
    have lrb : lr ≤ 262144 := by omega
    clear hp hdr hxm hpre hdep hfr hst nl hlb hlf Y hs2 hr0 hr1 LL
    rename_i hdup
    clear hdup
    generalize pre.length = n at *
    have i1 := IntWalk.i64_in ((n : Int) + 1) (by omega)
    have bw : w.heap.size + 1 + 1 + 1 + 1 + 1 + 1 < W'.heap.size := by have := YH.out.b2.1; omega
    have CU := hide (fun W => cutSuf_any x W (by omega))
    have HDc := hide (fun W h => head_any (bodyL x) W (by omega) h)
    have DPc := hide (fun W h => depths_any (bodyL x) W (by omega) h)
    have DB := hide (fun h => dp_back (p := bodyL x) h)
    have HB := hide (fun t st h => hd_back (l := bodyL x) (t := t) (st := st) h)
    have S1 := hide (fun (h : endB x = false) => STN.out (stG_end h))
    have S2 := hide (fun (h : endB x = true) (hn : n = 0) (h2 : hdO (bodyL x) = none) => STN.out (by subst hn; rw [stG_hd h, h2]))
    have S3 := hide (fun (h : endB x = true) (hn : n = 0) a b (h2 : hdO (bodyL x) = some (a, b)) => STS.out ⟨a, b, []⟩ (by subst hn; rw [stG_hd h, h2]))
    have S4 := hide (fun (h : endB x = true) (hn : n ≠ 0) (h2 : ¬ (dpB (bodyL x) = true ∧ ((dpL (bodyL x)).length = 12 ∨ la = true))) => STN.out (by rw [stG_dp h hn, if_neg h2]))
    have S5 := hide (fun (h : endB x = true) (hn : n ≠ 0) (h2 : dpB (bodyL x) = true ∧ ((dpL (bodyL x)).length = 12 ∨ la = true)) => STS.out ⟨fr, st, ds ++ dpL (bodyL x)⟩ (by rw [stG_dp h hn, if_pos h2]))
    have bl : (bodyL x).length ≤ 262145 := by omega
    unfold DpPost at DPc
    unfold HdPost at HDc
    generalize dpB (bodyL x) = db at *
    generalize hdO (bodyL x) = ho at *
    generalize dpL (bodyL x) = dl at *
    generalize endB x = eb at *
    generalize bodyL x = bd at *
    clear STN STS lb
    have hr := YH.out.own.r6
    gi_wp2_with fail
    refine ⟨trivial, (CallsIn.inRound l' (callsIn_wide.2 (CU.out _))).mono ?_⟩
    rintro e w3 ⟨rfl, rfl⟩
    have Y2 := hide ((YH.out.line (Nat.le_refl _) ((n : Int) + 1)).rest (Nat.le_refl _) (lr : Int))
    have K2 := hide ((Kq.set (b := w.heap.size + 1 + 1 + 1 + 1 + 1 + 1) W' (w.heap.size + 1 + 1 + 1 + 1 + 1) 0 (.int .i64 ((n : Int) + 1)) (by omega)).trans (Kq.set _ (w.heap.size + 1 + 1 + 1 + 1) 0 (.int .i64 (lr : Int)) (by omega)))
    generalize World.setCell (World.setCell W' _ _) _ _ = W2 at *
    clear hr YH CU
    have hr := Y2.out.own.r6
    have bw2 : w.heap.size + 1 + 1 + 1 + 1 + 1 + 1 < W2.heap.size := by have := Y2.out.b2.1; omega
    cases eb with
    | false =>
      have E := hide (S1.out rfl)
      clear S1 S2 S3 S4 S5 DPc HDc
      gi_wp2
      gi_region
      all_goals
        gi_wp2
        exact ⟨((K2.out.trans (kq_six _ (by omega) (by omega) (by omega) _ _ _ _ _ _)).o.trans (KeepsOthers.drew _)).from _, rfl, n, (lr : Int), fr, st, _, ds, E.out, (Y2.out.six (Nat.le_refl _) (.int .i64 0) (.int .i64 0) (.slice none 0 0) (.int .i64 ((n : Int) + 1)) (.int .i64 1) 7).drew⟩
    | true =>
      by_cases hn0 : n = 0
      · have q2 : ((n : Int) + 1 == 1) = true := beq_iff_eq.2 (by omega)
        have S2' := hide (fun h2 => S2.out rfl hn0 h2)
        have S3' := hide (fun a b h2 => S3.out rfl hn0 a b h2)
        clear S1 S2 S3 S4 S5 DPc hn0
        gi_wp2_with fail
        refine ⟨trivial, (CallsIn.inRound l' (callsIn_wide.2 (HDc.out _ (HT.out.below Y2.out.own.1)))).mono ?_⟩
        rintro e w3 ⟨hb, hf, hst, ok, rfl, hok1, hok2⟩
        have Y3 := hide (((Y2.out.to hb).field (Nat.le_refl _) 0 (.int .i64 hf) hf st (.slice Av ds.length cv) rfl).field (Nat.le_refl _) 1 (.int .i64 hst) hf hst (.slice Av ds.length cv) rfl)
        have Y4 := hide (Y3.out.field (Nat.le_refl _) 2 (.slice none 0 0) hf hst (.slice none 0 0) rfl)
        have K4 := hide ((((K2.out.trans (Kq.below hb bw2)).trans (Kq.set w3 (w.heap.size + 1 + 1 + 1) 0 (.int .i64 hf) (by omega))).trans (Kq.set _ (w.heap.size + 1 + 1 + 1) 1 (.int .i64 hst) (by omega))).trans (Kq.set _ (w.heap.size + 1 + 1 + 1) 2 (.slice none 0 0) (by omega)))
        have Y2b := hide (Y2.out.to hb)
        clear hr Y2 hb Y3
        have hr := Y2b.out.own.r6
        cases ok with
        | false =>
          have E := hide (S2'.out (hok2 rfl))
          clear S2' S3' hok1 hok2
          gi_wp2
          gi_region
          all_goals
            gi_wp2
            have Y5 := Y4.out.row' (v' := .slice none 0 0) (L' := []) (World.ownsRow_nil _ _ _ _)
            exact ⟨((K4.out.trans (kq_six _ (by omega) (by omega) (by omega) _ _ _ _ _ _)).o.trans (KeepsOthers.drew _)).from _, rfl, n, (lr : Int), hf, hst, .slice none 0 0, [], E.out, (Y5.six (Nat.le_refl _) (.int .i64 0) (.int .i64 0) (.slice none 0 0) (.int .i64 ((n : Int) + 1)) (.int .i64 1) 7).drew⟩
        | true =>
          have hh := hok1 rfl
          have E := hide (S3'.out hf hst hh)
          have AB2 := hide (HB.out hf hst hh)
          clear S2' S3' hok1 hok2 hh
          gi_wp2
          exact ⟨K4.out.o.from _, K4.out.k, PRE.out, ⟨hf, hst, []⟩, .slice none 0 0, by rw [HPL.out, HR1.out]; exact Y4.out.row' (L' := []) (World.ownsRow_nil _ _ _ _), by rw [HPL.out]; exact E.out, fun n hn => by simp at hn, AB2.out.1, ⟨AB2.out.2.1, AB2.out.2.2.1⟩, by simp⟩
      · have q2 : ((n : Int) + 1 == 1) = false := beq_eq_false_iff_ne.2 (by omega)
        have S4' := hide (fun h2 => S4.out rfl hn0 h2)
        have S5' := hide (fun h2 => S5.out rfl hn0 h2)
        clear S1 S2 S3 S4 S5 HDc hn0 HB
        gi_wp2_with fail
        refine ⟨trivial, (CallsIn.inRound l' (callsIn_wide.2 (DPc.out _ (HT.out.below Y2.out.own.1)))).mono ?_⟩
        rintro e w3 ⟨hb, L, vL, rfl, hrow, hL, hLl⟩
        have Y3 := hide (Y2.out.to hb)
        have K3 := hide (K2.out.trans (Kq.below hb bw2))
        obtain ⟨AL, cL, rfl, -⟩ := row_anyG hrow
        have HROW := hide hrow
        clear hr Y2 K2 hb hrow DPc
        have FL : ∀ u ∈ L.map (Value.int .i64), u.oneCell' = true := fun u hu => by
          obtain ⟨_, _, rfl⟩ := List.mem_map.1 hu; rfl
        have Lb : L.length ≤ 262146 := by omega
        have f1 : ds.length + L.length ≤ maxLen := by unfold maxLen; omega
        have f2 : (ds.length + L.length) * 8 ≤ 140737488355328 := by omega
        cases db with
        | false =>
          have E := hide (S4'.out (fun h => by have := h.1; cases this))
          clear S4' S5' hL DB
          have hr := Y3.out.own.r6
          gi_wp2_with (gi_at_builtin; refine wpListIn_append_row _ rfl _ _ 22 rfl W.heap.size W2.heap.size 3 i0 (.int .i64 0) 8 Tryz.underlying22 hi0 hz0 hz1 hz2 rfl _ ds.length (ds.map (Value.int .i64)) rfl Y3.out.row _ L.length (L.map (Value.int .i64)) rfl HROW.out FL f1 f2 Y3.out.b2.1 ?_; intro A4 c4 w4 hown4 hgrow; have Y4 := hide (Y3.out.app (L' := ds ++ L) (by rw [List.length_append, List.map_append]; exact hown4) hgrow); have K4 := hide (K3.out.trans (Kq.row Y3.out.row hgrow (by omega) (by have := Y3.out.b2.1; omega))); clear hr hown4 hgrow; have hr := Y4.out.own.r6)
          have Y5 := hide (Y4.out.field (Nat.le_refl _) 2 (.slice A4 (ds.length + L.length) c4) fr st (.slice A4 (ds.length + L.length) c4) rfl)
          have K5 := hide (K4.out.trans (Kq.set w4 (w.heap.size + 1 + 1 + 1) 2 (.slice A4 (ds.length + L.length) c4) (by omega)))
          clear Y4 K4 Y3 K3 HROW FL
          gi_wp2
          gi_region
          all_goals
            gi_wp2
            exact ⟨((K5.out.trans (kq_six _ (by omega) (by omega) (by omega) _ _ _ _ _ _)).o.trans (KeepsOthers.drew _)).from _, rfl, n, (lr : Int), fr, st, .slice A4 (ds.length + L.length) c4, (ds ++ L), E.out, (Y5.out.six (Nat.le_refl _) (.int .i64 0) (.int .i64 0) (.slice none 0 0) (.int .i64 ((n : Int) + 1)) (.int .i64 1) 7).drew⟩
        | true =>
          obtain rfl := hL rfl
          have L12 : L.length ≤ 12 := (DB.out rfl).2.2.1
          have FD := hide (show ∀ n ∈ ds ++ L, depR n from fun n hn => by
            rcases List.mem_append.1 hn with hn | hn
            · exact DEP.out n hn
            · exact (DB.out rfl).2.2.2 n hn)
          clear hL DB
          by_cases h12 : L.length = 12
          · have q3 : ((L.length : Int) == 12) = true := beq_iff_eq.2 (by omega)
            have E := hide (S5'.out ⟨rfl, .inl h12⟩)
            clear S4' S5' h12
            have hr := Y3.out.own.r6
            gi_wp2_with (gi_at_builtin; refine wpListIn_append_row _ rfl _ _ 22 rfl W.heap.size W2.heap.size 3 i0 (.int .i64 0) 8 Tryz.underlying22 hi0 hz0 hz1 hz2 rfl _ ds.length (ds.map (Value.int .i64)) rfl Y3.out.row _ L.length (L.map (Value.int .i64)) rfl HROW.out FL f1 f2 Y3.out.b2.1 ?_; intro A4 c4 w4 hown4 hgrow; have Y4 := hide (Y3.out.app (L' := ds ++ L) (by rw [List.length_append, List.map_append]; exact hown4) hgrow); have K4 := hide (K3.out.trans (Kq.row Y3.out.row hgrow (by omega) (by have := Y3.out.b2.1; omega))); clear hr hown4 hgrow; have hr := Y4.out.own.r6)
            have Y5 := hide (Y4.out.field (Nat.le_refl _) 2 (.slice A4 (ds.length + L.length) c4) fr st (.slice A4 (ds.length + L.length) c4) rfl)
            have K5 := hide (K4.out.trans (Kq.set w4 (w.heap.size + 1 + 1 + 1) 2 (.slice A4 (ds.length + L.length) c4) (by omega)))
            clear Y4 K4 Y3 K3 HROW FL
            gi_wp2
            exact ⟨K5.out.o.from _, K5.out.k, PRE.out, ⟨fr, st, ds ++ L⟩, .slice A4 (ds.length + L.length) c4, by rw [HPL.out, HR1.out]; exact Y5.out, by rw [HPL.out]; exact E.out, FD.out, AB.out.1, AB.out.2, by rw [HPL.out, List.length_append]; omega⟩
          · have q3 : ((L.length : Int) == 12) = false := beq_eq_false_iff_ne.2 (by omega)
            cases la with
            | true =>
              have E := hide (S5'.out ⟨rfl, .inr rfl⟩)
              clear S4' S5' h12
              have hr := Y3.out.own.r6
              gi_wp2_with (gi_at_builtin; refine wpListIn_append_row _ rfl _ _ 22 rfl W.heap.size W2.heap.size 3 i0 (.int .i64 0) 8 Tryz.underlying22 hi0 hz0 hz1 hz2 rfl _ ds.length (ds.map (Value.int .i64)) rfl Y3.out.row _ L.length (L.map (Value.int .i64)) rfl HROW.out FL f1 f2 Y3.out.b2.1 ?_; intro A4 c4 w4 hown4 hgrow; have Y4 := hide (Y3.out.app (L' := ds ++ L) (by rw [List.length_append, List.map_append]; exact hown4) hgrow); have K4 := hide (K3.out.trans (Kq.row Y3.out.row hgrow (by omega) (by have := Y3.out.b2.1; omega))); clear hr hown4 hgrow; have hr := Y4.out.own.r6)
              have Y5 := hide (Y4.out.field (Nat.le_refl _) 2 (.slice A4 (ds.length + L.length) c4) fr st (.slice A4 (ds.length + L.length) c4) rfl)
              have K5 := hide (K4.out.trans (Kq.set w4 (w.heap.size + 1 + 1 + 1) 2 (.slice A4 (ds.length + L.length) c4) (by omega)))
              clear Y4 K4 Y3 K3 HROW FL
              gi_wp2
              exact ⟨K5.out.o.from _, K5.out.k, PRE.out, ⟨fr, st, ds ++ L⟩, .slice A4 (ds.length + L.length) c4, by rw [HPL.out, HR1.out]; exact Y5.out, by rw [HPL.out]; exact E.out, FD.out, AB.out.1, AB.out.2, by rw [HPL.out, List.length_append]; omega⟩
            | false =>
              have E := hide (S4'.out (fun h => by rcases h.2 with h | h; exact h12 h; cases h))
              clear S4' S5' h12
              have hr := Y3.out.own.r6
              gi_wp2_with (gi_at_builtin; refine wpListIn_append_row _ rfl _ _ 22 rfl W.heap.size W2.heap.size 3 i0 (.int .i64 0) 8 Tryz.underlying22 hi0 hz0 hz1 hz2 rfl _ ds.length (ds.map (Value.int .i64)) rfl Y3.out.row _ L.length (L.map (Value.int .i64)) rfl HROW.out FL f1 f2 Y3.out.b2.1 ?_; intro A4 c4 w4 hown4 hgrow; have Y4 := hide (Y3.out.app (L' := ds ++ L) (by rw [List.length_append, List.map_append]; exact hown4) hgrow); have K4 := hide (K3.out.trans (Kq.row Y3.out.row hgrow (by omega) (by have := Y3.out.b2.1; omega))); clear hr hown4 hgrow; have hr := Y4.out.own.r6)
              have Y5 := hide (Y4.out.field (Nat.le_refl _) 2 (.slice A4 (ds.length + L.length) c4) fr st (.slice A4 (ds.length + L.length) c4) rfl)
              have K5 := hide (K4.out.trans (Kq.set w4 (w.heap.size + 1 + 1 + 1) 2 (.slice A4 (ds.length + L.length) c4) (by omega)))
              clear Y4 K4 Y3 K3 HROW FL
              gi_wp2
              gi_region
              all_goals
                gi_wp2
                exact ⟨((K5.out.trans (kq_six _ (by omega) (by omega) (by omega) _ _ _ _ _ _)).o.trans (KeepsOthers.drew _)).from _, rfl, n, (lr : Int), fr, st, .slice A4 (ds.length + L.length) c4, (ds ++ L), E.out, (Y5.out.six (Nat.le_refl _) (.int .i64 0) (.int .i64 0) (.slice none 0 0) (.int .i64 ((n : Int) + 1)) (.int .i64 1) 7).drew⟩
  case done =>
    rintro dk W' hD ⟨_, ⟨fr, st, ds⟩, v, Y, hp, hdep, hfr, hst, hdl⟩ hK
    dsimp only at Y hdep hfr hst hdl
    rw [List.drop_length, prGL] at hp
    have PH := hide hp
    have KH := hide hK
    have YH := hide Y
    clear hp hK Y
    generalize (lns s).length = N at *
    have hr := YH.out.own.r6
    by_cases h0 : N = 0
    · have q : ((N : Int) == 0) = true := beq_iff_eq.2 (by omega)
      have E : Hid (prG s = (S0, 1, 7)) := hide (EF.out.trans (PH.out.trans (if_pos h0)))
      clear h0
      gi_wp2
      have Y6 := YH.out.six (Nat.le_refl _) (.int .i64 0) (.int .i64 0) (.slice none 0 0) (.int .i64 1) (.int .i64 1) 7
      have K6 := (kq_six W' (k := dk) (b := w.heap.size) (by omega) (by omega) (by omega) (.int .i64 0) (.int .i64 0) (.slice none 0 0) (.int .i64 1) (.int .i64 1) (.int .i64 7)).o.same dk _ KH.out rfl
      have Y7 := hide (Y6.taken hD K6)
      clear Y6
      refine ⟨by simp, .inl ⟨_, _, rfl, run_takeDeferred K6, ?_⟩⟩
      refine ⟨.tuple #[.agg #[.int .i64 0, .int .i64 0, .slice none 0 0], .agg #[.int .i64 1, .int .i64 1], .int .i64 7], ?_, ?_⟩
      · have hr2 := Y7.out.own.r6
        clear hr
        simp [results, Tryz.results10, hr2, go_sem]
      · exact PgPost.bad (n := 0) Y7.out.own.1 E.out
    · have q : ((N : Int) == 0) = false := beq_eq_false_iff_ne.2 (by omega)
      obtain ⟨A, c, rfl, hT⟩ := YH.out.ser (fr := fr) (st := st) hdep hfr hst (by omega)
      have TB := hide (fun W1 R (Z : Gp w W1 W.heap.size R (.slice A ds.length c) ds) => (show SerSl W1 ⟨fr, st, ds⟩ ⟨A, c⟩ by
        obtain ⟨B1, k1, f1, h⟩ := Z.ser (fr := fr) (st := st) hdep hfr hst (by omega)
        injection f1 with f1 _ g1
        subst f1 g1
        exact h))
      have V1 := hide (gvalid_any ⟨fr, st, ds⟩ ⟨A, c⟩ W' hT)
      have PH2 : Hid (prGL (lns s) 0 S0 = if vS ⟨fr, st, ds⟩ = true then (⟨fr, st, ds⟩, 0, 0) else (S0, 0, 1)) := hide (PH.out.trans (if_neg h0))
      clear h0 PH hT hdep
      gi_wp2_with fail
      refine ⟨trivial, (callsIn_wide.2 V1.out).mono ?_⟩
      rintro e w3 ⟨rfl, hb⟩
      have Y3 := hide (YH.out.to hb)
      have K3 : Hid (w3.heap[dk]? = some (.deferred (some []))) := hide ((show KeepsOthers W' w3 from ⟨hb.size, fun k _ hk _ => (hb.block k (Array.getElem?_eq_some_iff.1 hk).1).trans hk⟩).same dk _ KH.out rfl)
      clear hr hb YH V1
      have hr := Y3.out.own.r6
      rcases Bool.eq_false_or_eq_true (vS ⟨fr, st, ds⟩) with hv | hv
      · have E : Hid (prG s = (⟨fr, st, ds⟩, 0, 0)) := hide (by rw [EF.out, PH2.out, hv]; rfl)
        rw [hv]
        clear PH2 EF hv
        gi_wp2
        have Y6 := Y3.out.six (Nat.le_refl _) (.int .i64 fr) (.int .i64 st) (.slice A ds.length c) (.int .i64 0) (.int .i64 0) 0
        have K6 := (kq_six w3 (k := dk) (b := w.heap.size) (by omega) (by omega) (by omega) (.int .i64 fr) (.int .i64 st) (.slice A ds.length c) (.int .i64 0) (.int .i64 0) (.int .i64 0)).o.same dk _ K3.out rfl
        have Y7 := hide (Y6.taken hD K6)
        clear Y6
        refine ⟨by simp, .inl ⟨_, _, rfl, run_takeDeferred K6, ?_⟩⟩
        refine ⟨.tuple #[.agg #[.int .i64 fr, .int .i64 st, .slice A ds.length c], .agg #[.int .i64 0, .int .i64 0], .int .i64 0], ?_, ?_⟩
        · have hr2 := Y7.out.own.r6
          clear hr
          simp [results, Tryz.results10, hr2, go_sem]
        · exact ⟨Y7.out.own.1, ⟨A, c⟩, by rw [E.out]; rfl, by rw [E.out]; exact TB.out _ _ Y7.out⟩
      · have E : Hid (prG s = (S0, 0, 1)) := hide (by rw [EF.out, PH2.out, hv]; rfl)
        rw [hv]
        clear PH2 EF hv TB
        gi_wp2
        have Y6 := Y3.out.six (Nat.le_refl _) (.int .i64 0) (.int .i64 0) (.slice none 0 0) (.int .i64 0) (.int .i64 0) 1
        have K6 := (kq_six w3 (k := dk) (b := w.heap.size) (by omega) (by omega) (by omega) (.int .i64 0) (.int .i64 0) (.slice none 0 0) (.int .i64 0) (.int .i64 0) (.int .i64 1)).o.same dk _ K3.out rfl
        have Y7 := hide (Y6.taken hD K6)
        clear Y6
        refine ⟨by simp, .inl ⟨_, _, rfl, run_takeDeferred K6, ?_⟩⟩
        refine ⟨.tuple #[.agg #[.int .i64 0, .int .i64 0, .slice none 0 0], .agg #[.int .i64 0, .int .i64 0], .int .i64 1], ?_, ?_⟩
        · have hr2 := Y7.out.own.r6
          clear hr
          simp [results, Tryz.results10, hr2, go_sem]
        · exact PgPost.err Y7.out.own.1 E.out
  case stop =>
    rintro dk c pre W' hD _ ⟨rfl, k, left, fr, st, v, L, hp, Y⟩ hK
    have E : Hid (prG s = (S0, (k : Int) + 1, 7)) := hide (EF.out.trans hp)
    have YH := hide Y
    gi_wp2
    refine ⟨by simp, .inl ⟨_, _, rfl, run_takeDeferred hK, ?_⟩⟩
    refine ⟨.tuple #[.agg #[.int .i64 0, .int .i64 0, .slice none 0 0], .agg #[.int .i64 ((k : Int) + 1), .int .i64 1], .int .i64 7], ?_, ?_⟩
    · have hr2 := (YH.out.taken hD hK).own.r6
      simp [results, Tryz.results10, hr2, go_sem]
    · exact PgPost.bad (YH.out.taken hD hK).own.1 E.out
end Go.Proofs.YtkjndkeboeieoaaGreatDoor

namespace Go.Proofs.YtkjndkeboeieoaaGreatDoor
open Go.RowKit Go.Shelf

attribute [local go_sem] Oper.semAt_some

theorem row_any {w : World} {base : Nat} {e : TypeId} {size n : Nat} {v : Value} {xs : List Value} (h : w.ownsRow base e size v n xs) : ∃ A c, v = .slice A n c := by
  rcases h.2 with ⟨rfl, h0⟩ | ⟨g, cap, _, rfl, _⟩
  · subst h0; exact ⟨none, 0, rfl⟩
  · exact ⟨_, cap, rfl⟩
/-- the record is done: it is stored as the result, then the rounds' deferred calls are taken -/
theorem Gat.post2 {w wr : World} {B2 o : Nat} {fr q : Int} {R : List (Nat × TypeId × Array Value)} {KK : List (Nat × Obj)} {v : Value} {n : Nat} {L : List Int} (h : Gat w wr B2 o fr q R KK v n L) {rb eb D : Nat} {c0 c1 c2 c3 : Value}
    (hrb : (rb, (24 : TypeId), #[c0, c1, c2]) ∈ R) (heb : (eb, (27 : TypeId), #[c3]) ∈ R) (hne : rb ≠ eb) (hw : w.heap.size ≤ rb) (hw' : w.heap.size ≤ eb) (x y z u : Value) (hD : w.heap.size ≤ D) (hK : wr.heap[D]? = some (.deferred (some [])))
    (hL : ∀ u ∈ L, -9223372036854775808 ≤ u ∧ u ≤ 9223372036854775807) (hn : L.length ≤ 9223372036854775807) (hf : -9223372036854775808 ≤ fr ∧ fr ≤ 9223372036854775807) (hq : -9223372036854775808 ≤ q ∧ q ≤ 9223372036854775807) :
    ((((wr.setCell ⟨rb, 0, none⟩ x).setCell ⟨rb, 1, none⟩ y).setCell ⟨rb, 2, none⟩ z).setCell ⟨eb, 0, none⟩ u).heap[D]? = some (.deferred (some [])) ∧
    SerPost ⟨fr, q, L⟩ 0 w (.returned (.tuple #[.agg #[.int .i64 fr, .int .i64 q, v], .int .i64 0])) (((((wr.setCell ⟨rb, 0, none⟩ x).setCell ⟨rb, 1, none⟩ y).setCell ⟨rb, 2, none⟩ z).setCell ⟨eb, 0, none⟩ u).putObj D (.deferred none)) ∧
    (∀ i, (((((wr.setCell ⟨rb, 0, none⟩ x).setCell ⟨rb, 1, none⟩ y).setCell ⟨rb, 2, none⟩ z).setCell ⟨eb, 0, none⟩ u).putObj D (.deferred none)).cell? ⟨rb, i, none⟩ = #[x, y, z][i]?) ∧
    (∀ i, (((((wr.setCell ⟨rb, 0, none⟩ x).setCell ⟨rb, 1, none⟩ y).setCell ⟨rb, 2, none⟩ z).setCell ⟨eb, 0, none⟩ u).putObj D (.deferred none)).cell? ⟨eb, i, none⟩ = #[u][i]?) := by
  have hB : Blk wr rb 24 #[c0, c1, c2] := h.own.2 _ (List.mem_cons_of_mem _ hrb)
  have hE : Blk wr eb 27 #[c3] := h.own.2 _ (List.mem_cons_of_mem _ heb)
  have ne : (3 : TypeId) ≠ 24 := by decide
  have ne' : (3 : TypeId) ≠ 27 := by decide
  have B1 := ((hB.set_ 0 x).set_ 1 y).set_ 2 z
  have E1 := ((hE.off hne.symm x (o := 0)).off hne.symm y (o := 1)).off hne.symm z (o := 2)
  have row := row_set (row_set (row_set (row_set h.row hB ne 0 x) (hB.set_ 0 x) ne 1 y) ((hB.set_ 0 x).set_ 1 y) ne 2 z) E1 ne' 0 u
  have B2' := B1.off hne u (o := 0)
  have E2 := E1.set_ 0 u
  have K1 : ((((wr.setCell ⟨rb, 0, none⟩ x).setCell ⟨rb, 1, none⟩ y).setCell ⟨rb, 2, none⟩ z).setCell ⟨eb, 0, none⟩ u).heap[D]? = some (.deferred (some [])) :=
    ((((KeepsOthers.setCell wr ⟨rb, 0, none⟩ x).trans (KeepsOthers.setCell _ ⟨rb, 1, none⟩ y)).trans (KeepsOthers.setCell _ ⟨rb, 2, none⟩ z)).trans (KeepsOthers.setCell _ ⟨eb, 0, none⟩ u)).same D _ hK rfl
  have BB : Below w.heap.size w ((((wr.setCell ⟨rb, 0, none⟩ x).setCell ⟨rb, 1, none⟩ y).setCell ⟨rb, 2, none⟩ z).setCell ⟨eb, 0, none⟩ u) := below_set (below_set (below_set (below_set h.own.1 hw x) hw y) hw z) hw' u
  generalize ((((wr.setCell ⟨rb, 0, none⟩ x).setCell ⟨rb, 1, none⟩ y).setCell ⟨rb, 2, none⟩ z).setCell ⟨eb, 0, none⟩ u) = F at *
  have row2 := ownsRow_putObj row (.deferred none) K1 rfl
  have g := grownBy_putObj' F D (.deferred none)
  have kb : ∀ (b : Nat) (t : TypeId) (cs : Array Value), Blk F b t cs → Blk (F.putObj D (.deferred none)) b t cs := fun b t cs hb => (g.block b (Array.getElem?_eq_some_iff.1 (show F.heap[b]? = _ from hb)).1 (fun e => by
    injection e with e
    subst e
    rw [show F.heap[b]? = _ from hb] at K1
    cases K1)).trans hb
  obtain ⟨A, c, e, hs⟩ := IntSl.of_row row2 hn (fun i hi => hL _ (List.getElem_mem hi))
  have hc : L.length ≤ c := by
    have hl := row2.1
    rw [List.length_map] at hl
    rcases row2.2 with ⟨e', h0⟩ | ⟨g, cap, cur, e', _, _, h4, _⟩
    · omega
    · rw [e] at e'
      injection e' with e1 e2 e3
      omega
  refine ⟨K1, ⟨BB.grown g BB.size (fun k hk => by injection hk with hk; omega), ⟨A, c⟩, by rw [e], hs, hc, hf, hq⟩, (kb _ _ _ B2').cell, (kb _ _ _ E2).cell⟩
set_option maxRecDepth 100000 in
set_option maxHeartbeats 4000000 in
theorem coarser_in (s : Ser) (a : SerA) (k m : Nat) (w : World) (hs : SerSl w s a) (hv : vS s = true) (h1 : 1 ≤ k) (h2 : s.st * (k : Int) ≤ 86400) (h3 : s.ds.length = m * k) (h4 : ∀ i, i < m → chV (part s.ds k i) ≤ 4194304) :
    Calls Tryz.prog 17 #[s.val a, .int .i64 (k : Int)] w (SerPost ⟨s.fr, s.st * (k : Int), chL s.ds k m⟩ 0 w) := by
  obtain ⟨fr, st, l⟩ := s
  obtain ⟨A, c⟩ := a
  have h2' : st * (k : Int) ≤ 86400 := h2
  have h3' : l.length = m * k := h3
  have h4' : ∀ i, i < m → chV (part l k i) ≤ 4194304 := h4
  have V := hide (fun W (h : SerSl W ⟨fr, st, l⟩ ⟨A, c⟩) => gvalid_any ⟨fr, st, l⟩ ⟨A, c⟩ W h)
  rw [hv] at V
  have v := vS_iff.1 hv
  have v1 : 1 ≤ st ∧ st ≤ 86400 := v.st
  have vf : -68719476736 ≤ fr ∧ fr ≤ 68719476736 := v.fr
  have HV := hide v.ok
  have le : l.length ≤ 10000 := v.le
  clear hv v h2 h3 h4
  have HS := hide hs
  have X := (((Own.start w).alloc #[.int .i64 fr, .int .i64 st, .slice A l.length c] 24).alloc #[.int .i64 0, .int .i64 0, .slice none 0 0] 24).alloc #[.int .i64 0] 27
  simp only [World.size_alloc] at X
  have hcap : l.length ≤ c := hs.2.1
  clear hs
  have hr := X.r3
  have k86 : (k : Int) ≤ 86400 := by
    have : (k : Int) * 1 ≤ (k : Int) * st := Int.mul_le_mul_of_nonneg_left v1.1 (by omega)
    rw [Int.mul_comm (k : Int) st] at this
    omega
  have d1 : (86400 : Int).tdiv st = 86400 / st := Int.tdiv_eq_ediv_of_nonneg (by omega)
  have d2 : (k : Int) ≤ 86400 / st := (Int.le_ediv_iff_mul_le (by omega)).2 (by rw [Int.mul_comm]; exact h2')
  have d3 : 86400 / st ≤ 86400 := Int.ediv_le_self _ (by omega)
  have d4 : IntKind.i64.wrap ((86400 : Int).tdiv st) = 86400 / st := by rw [d1]; exact IntWalk.i64_in _ (by omega)
  generalize hD : (86400 : Int) / st = D at *
  have d5 : IntKind.i64.wrap D = D := IntWalk.i64_in _ (by omega)
  have d6 : wrap64 D = D := IntWalk.wrap64_in _ (by omega)
  have q1 : decide (D < (k : Int)) = false := decide_eq_false (by omega)
  have q2 : decide ((k : Int) < 1) = false := decide_eq_false (by omega)
  have q3 : (st == 0) = false := beq_eq_false_iff_ne.2 (by omega)
  have q30 : ¬ st = 0 := by omega
  have q4 : ((k : Int) == 0) = false := beq_eq_false_iff_ne.2 (by omega)
  have q40 : ¬ (k : Int) = 0 := by omega
  have r1 : (l.length : Int).tmod (k : Int) = 0 := by
    rw [Int.tmod_eq_emod_of_nonneg (by omega), h3', Int.natCast_mul]
    exact Int.mul_emod_left _ _
  have r2 : IntKind.i64.wrap ((l.length : Int).tmod (k : Int)) = 0 := by rw [r1]; decide
  obtain ⟨q, hq⟩ : ∃ q, q = st * (k : Int) := ⟨_, rfl⟩
  have qb : 0 ≤ q ∧ q ≤ 86400 := by rw [hq]; exact ⟨Int.mul_nonneg (by omega) (by omega), h2'⟩
  have w2 : IntKind.i64.wrap (st * (k : Int)) = q := by rw [← hq]; exact IntWalk.i64_in _ (by omega)
  have QB := hide (And.intro (And.intro v1 vf) (And.intro h2' (And.intro h3' h4')))
  rw [← hq]
  clear hD d2 d3 h2' h3' h4' v1 vf hq
  show Calls Tryz.prog 17 #[.agg #[.int .i64 fr, .int .i64 st, .slice A l.length c], .int .i64 (k : Int)] w (SerPost ⟨fr, q, chL l k m⟩ 0 w)
  refine (callsIn_wide (n := 4)).1 ?_
  refine callsIn_of_wp_marks Tryz.func17 rfl trivial ?_ rfl
  simp only [Tryz.ntmps17, List.size_toArray, List.length_cons, List.length_nil, Nat.reduceAdd, Nat.reduceSub, Array.replicate_succ, Array.replicate_zero, List.push_toArray, List.append_toArray, List.nil_append, List.cons_append]
  gi_wp2_with fail
  refine ⟨trivial, (callsIn_wide.2 (V.out _ (HS.out.below X.1))).mono ?_⟩
  rintro e w1 ⟨rfl, hb⟩
  replace X := X.to hb
  clear hb hr V
  have hr := X.r3
  gi_wp2_with fail
  refine ⟨trivial, (chunk_in 3 A l.length c k h1 _).mono ?_⟩
  rintro e w2 ⟨rfl, rfl⟩
  have lt1 : w.heap.size + 2 < w1.heap.size := X.r1.2.2
  replace X := X.alloc #[.int .i64 fr, .int .i64 q, .slice none 0 0] 24
  have Z := (X.alloc #[.slice A l.length c] 22).alloc #[.int .i64 (k : Int)] 3
  simp only [World.size_alloc] at Z
  clear hr
  have bS := Z.2 (w1.heap.size + 1, 22, #[.slice A l.length c]) (by simp)
  have bN := Z.2 (w1.heap.size + 1 + 1, 3, #[.int .i64 (k : Int)]) (by simp)
  have Z2 := Z.tail.tail
  have cS := bS.cell 0
  have cN := bN.cell 0
  have bNl := bN.lt
  generalize hW : ((w1.alloc (.cells #[.int .i64 fr, .int .i64 q, .slice none 0 0] 24)).alloc (.cells #[.slice A l.length c] 22)).alloc (.cells #[.int .i64 (k : Int)] 3) = W at *
  have G0 : Gat w W W.heap.size w1.heap.size fr q [(w.heap.size + 1 + 1, 27, #[.int .i64 0]), (w.heap.size + 1, 24, #[.int .i64 0, .int .i64 0, .slice none 0 0]), (w.heap.size, 24, #[.int .i64 fr, .int .i64 st, .slice A l.length c])] [(w1.heap.size + 1, .cells #[.slice A l.length c] 22 (0, 0)), (w1.heap.size + 1 + 1, .cells #[.int .i64 (k : Int)] 3 (0, 0))] (.slice none 0 0) 0 [] := by
    refine ⟨Z2, World.ownsRow_nil _ _ _ _, ?_, ⟨Nat.le_refl _, Z2.1.size, by omega⟩, ?_, ?_⟩
    · intro p hp
      simp only [List.mem_cons, List.not_mem_nil, or_false] at hp
      rcases hp with rfl | rfl
      · exact ⟨bS, by show w1.heap.size + 1 < _; omega, by show w1.heap.size + 1 ≠ w1.heap.size; omega⟩
      · exact ⟨bN, by show w1.heap.size + 1 + 1 < _; omega, by show w1.heap.size + 1 + 1 ≠ w1.heap.size; omega⟩
    · intro x hx
      simp only [List.mem_cons, List.not_mem_nil, or_false] at hx
      rcases hx with rfl | rfl | rfl
      · show (3 : TypeId) ≠ 27; decide
      · show (3 : TypeId) ≠ 24; decide
      · show (3 : TypeId) ≠ 24; decide
    · intro x hx
      simp only [List.mem_cons, List.not_mem_nil, or_false] at hx
      rcases hx with rfl | rfl | rfl
      · show w.heap.size + 1 + 1 ≠ w1.heap.size; omega
      · show w.heap.size + 1 ≠ w1.heap.size; omega
      · show w.heap.size ≠ w1.heap.size; omega
  have GH := hide G0
  have hw2 : w.heap.size + 2 < W.heap.size := by omega
  clear hW Z Z2 bS bN X G0
  have HQ := QB.out
  obtain ⟨⟨v1, vf⟩, _, h3, h4⟩ := HQ
  have H3 := hide h3
  have H4 := hide h4
  have hAe : ∃ b off, 0 < m → A = some ⟨b, off, none⟩ ∧ b < w.heap.size ∧ ∀ i, i < l.length → w.cell? ⟨b, off + i, none⟩ = some (.int .i64 (l.getD i 0)) := by
    by_cases hm : 0 < m
    · obtain ⟨b, off, e, hb, hat⟩ := HS.out.1.atg (by show 0 < l.length; rw [h3]; exact Nat.mul_pos hm h1)
      exact ⟨b, off, fun _ => ⟨e, hb, hat⟩⟩
    · exact ⟨0, 0, fun h => absurd h hm⟩
  obtain ⟨b, off, hA⟩ := hAe
  clear h3 h4
  gi_wp2
  refine' wpIn_rangeFunc_ownG rfl (by decide) (gf := 54) (lb := #[.pointer (some ⟨w1.heap.size + 1, 0, none⟩), .pointer (some ⟨w1.heap.size + 1 + 1, 0, none⟩)]) rfl trivial (enters_of Tryz.func54 (by kernel_rfl) rfl)
    (chunk_stops 3 (by decide) (w1.heap.size + 1) (w1.heap.size + 1 + 1) b off l.length c k m A (fun h => (hA h).1) H3.out h1 hcap le (by omega) W cS cN) KpB.t (KpB.b (by omega) bNl) (Below.refl _ _) (fun _ => rfl)
    (fun pre W' => ∃ v, Gat w W' W.heap.size w1.heap.size fr q [(w.heap.size + 1 + 1, 27, #[.int .i64 0]), (w.heap.size + 1, 24, #[.int .i64 0, .int .i64 0, .slice none 0 0]), (w.heap.size, 24, #[.int .i64 fr, .int .i64 st, .slice A l.length c])] [(w1.heap.size + 1, .cells #[.slice A l.length c] 22 (0, 0)), (w1.heap.size + 1 + 1, .cells #[.int .i64 (k : Int)] 3 (0, 0))] v pre.length (pre.map (fun x : Fin m => chV (part l k x.1))))
    (fun _ _ _ => False)
    (fun s A B row hs hg hr => by obtain ⟨v, hs⟩ := hs; exact ⟨v, hs.turn hg hr⟩)
    (fun _ _ _ _ _ hs _ _ => hs)
    ⟨_, GH.out⟩
    _ ?assign ?body ?done ?stop
  case assign =>
    intro l x W K hK
    gi_wp2
    exact hK
  case body =>
    rintro l' pre x W' ⟨v, Y⟩ hlt
    obtain ⟨_, hbl, hat⟩ := hA (Nat.lt_of_le_of_lt (Nat.zero_le _) x.2)
    have HA := hide hA
    have hk1 : (1 : Nat) ≤ 4 - 1 - 1 := by decide
    have PL := part_length H3.out x.2
    have hxl : x.1 * k + k ≤ l.length := by
      have := Nat.mul_le_mul_right k x.2
      rw [Nat.succ_mul] at this
      rw [H3.out]; exact this
    have cP : ∀ j, j < k → W'.cell? ⟨b, off + x.1 * k + j, none⟩ = some (.int .i64 ((part l k x.1).getD j 0)) := fun j hj => by
      rw [part_at hj, Nat.add_assoc]
      exact (Y.own.1.cell (p := ⟨b, off + (x.1 * k + j), none⟩) hbl).trans (hat (x.1 * k + j) (by omega))
    have vP : ∀ j, j < (part l k x.1).length → -1 ≤ (part l k x.1).getD j 0 ∧ (part l k x.1).getD j 0 ≤ 4194304 := fun j hj => by
      rw [PL] at hj
      rw [part_at hj]
      exact HV.out _ (by omega)
    have c4 := H4.out x.1 x.2
    dsimp only [chEnc]
    have E1 : Hid ((pre ++ [x]).map (fun x : Fin m => chV (part l k x.1)) = pre.map (fun x : Fin m => chV (part l k x.1)) ++ [chV (part l k x.1)]) := hide (by simp)
    generalize hL0 : pre.map (fun x : Fin m => chV (part l k x.1)) = L0 at *
    generalize part l k x.1 = P at *
    generalize off + x.1 * k = O at *
    clear hL0 hat cS cN
    rename_i hAe0
    clear hAe0
    have PB := hide (fun i hi => ps_le (fun i hi => (vP i hi).2) i hi)
    have VP := hide vP
    have CP := hide cP
    have YH := hide Y
    have hml : m ≤ 10000 := by have := H3.out; have := Nat.le_mul_of_pos_right m h1; omega
    clear cP vP Y hA
    gi_wp2
    gi_loop [8, 10, 49] (fun v8 v10 v49 => ∃ j : Nat, j ≤ k ∧ v49 = .int .i64 (j : Int) ∧ v8 = .int .i64 (ps P j)) (fun _ _ v49 => k - (intOf v49).toNat)
    case atStart => exact ⟨0, by omega, rfl, rfl⟩
    case round =>
      obtain ⟨j, hj, rfl, rfl⟩ := hrel
      by_cases hlt2 : j < k
      · have c0 := CP.out j hlt2
        have D1 := hide (fun W => gdepth_any (P.getD j 0) W)
        obtain ⟨y, hy⟩ : ∃ y, y = max (P.getD j 0) 0 := ⟨_, rfl⟩
        have E2 : Hid (ps P (j + 1) = ps P j + y) := hide (by rw [hy]; rfl)
        have p0 := PB.out j (by omega)
        have p1 := ps_nonneg P j
        have v0 := VP.out j (by omega)
        have v0' : P.getD j 0 ≤ 4194304 := v0.2
        have y0 : 0 ≤ y ∧ y ≤ 4194304 := by rw [hy]; omega
        rw [← hy] at D1
        have s1 := IntWalk.i64_in (ps P j + y) (by omega)
        have g1 : (j : Int) < (k : Int) := by omega
        clear hy p0 p1 v0 v0' y0
        generalize P.getD j 0 = d at *
        generalize ps P j = S at *
        gi_wp2_with fail
        refine ⟨trivial, (CallsIn.inRound l' (callsIn_wide.2 (D1.out _))).mono ?_⟩
        rintro e w3 ⟨rfl, rfl⟩
        gi_wp2
        go_round
        case rel => exact ⟨j + 1, by omega, by go_num, by rw [E2.out]⟩
        case measure => simp [intOf]; omega
      · obtain rfl : j = k := by omega
        have CT := Tryz.slices_Contains_int b O j j P (-1) W' (by omega) (by omega) (fun i hi => CP.out i (by omega))
        rw [List.take_of_length_le (by omega)] at CT
        have CTH := hide CT
        have EC : Hid (chV P = if P.contains (-1) then -1 else ps P j) := hide (by rw [chV, PL])
        clear CT
        gi_wp2_with fail
        refine ⟨trivial, (CallsIn.inRound l' (callsIn_wide.2 CTH.out)).mono ?_⟩
        rintro e w3 ⟨rfl, rfl⟩
        obtain ⟨i0, hi0, hz0, hz1, hz2⟩ := info_parts int_info17
        rcases Bool.eq_false_or_eq_true (P.contains (-1)) with hc | hc
        · have E5 : Hid (chV P = -1) := hide (by rw [EC.out, hc]; rfl)
          rw [hc]
          have hr := YH.out.own.r1
          have sq : decide ((4194304 : Int) < -1) = false := decide_eq_false (by have := E5.out; omega)
          have f1 : pre.length + 1 ≤ maxLen := by unfold maxLen; omega
          have f2 : (pre.length + 1) * 8 ≤ 140737488355328 := by omega
          have f3 : W.heap.size ≤ (w3.alloc (.cells #[.int .i64 (-1)] 3)).heap.size := by have := YH.out.b2.1; simp; omega
          have f4 : ∀ u ∈ [Value.int .i64 (-1)], u.oneCell' = true := by intro u hu; simp at hu; subst hu; rfl
          clear hc EC
          gi_wp2_with (gi_at_builtin; refine wpListIn_append_form _ rfl _ _ 22 rfl W.heap.size 3 i0 (.int .i64 0) 1 8 Tryz.underlying22 hi0 hz0 hz1 hz2 rfl (by decide) _ pre.length (L0.map (Value.int .i64)) rfl (YH.out.row.alloc (.cells #[.int .i64 (-1)] 3)) ⟨w3.heap.size, 0, none⟩ 1 1 [.int .i64 (-1)] rfl rfl (World.news_of_block (cs := #[.int .i64 (-1)]) (t := 3) (fr := (0, 0)) (heap_alloc_new w3 _)) f4 (by decide) f1 f2 f3 ?_; intro gg cp w4 hown4 hgrow; have hr4 := ((YH.out.alloc (.cells #[.int .i64 (-1)] 3)).grown hgrow).r1)
          have Y5 := (YH.out.alloc (.cells #[.int .i64 (-1)] 3)).app (L4 := L0 ++ [-1]) (by rw [List.map_append]; exact hown4) hgrow
          refine ⟨(YH.out.others hgrow).from _, ⟨(Y5.keep _ (List.mem_cons_self ..)).1.trans (YH.out.keep _ (List.mem_cons_self ..)).1.symm, (Y5.keep _ (List.mem_cons_of_mem _ (List.mem_cons_self ..))).1.trans (YH.out.keep _ (List.mem_cons_of_mem _ (List.mem_cons_self ..))).1.symm⟩, ⟨.slice (some ⟨gg, 0, none⟩) (pre.length + 1) cp, ?_⟩⟩
          rw [E1.out, E5.out, List.length_append]
          exact Y5
        · have E5 : Hid (chV P = ps P j) := hide (by rw [EC.out, hc]; rfl)
          rw [hc]
          have hr := YH.out.own.r1
          have sq : decide ((4194304 : Int) < ps P j) = false := decide_eq_false (by have := E5.out; omega)
          have f1 : pre.length + 1 ≤ maxLen := by unfold maxLen; omega
          have f2 : (pre.length + 1) * 8 ≤ 140737488355328 := by omega
          have f3 : W.heap.size ≤ (w3.alloc (.cells #[.int .i64 (ps P j)] 3)).heap.size := by have := YH.out.b2.1; simp; omega
          have f4 : ∀ u ∈ [Value.int .i64 (ps P j)], u.oneCell' = true := by intro u hu; simp at hu; subst hu; rfl
          clear hc EC
          generalize ps P j = S at *
          gi_wp2_with (gi_at_builtin; refine wpListIn_append_form _ rfl _ _ 22 rfl W.heap.size 3 i0 (.int .i64 0) 1 8 Tryz.underlying22 hi0 hz0 hz1 hz2 rfl (by decide) _ pre.length (L0.map (Value.int .i64)) rfl (YH.out.row.alloc (.cells #[.int .i64 (S)] 3)) ⟨w3.heap.size, 0, none⟩ 1 1 [.int .i64 (S)] rfl rfl (World.news_of_block (cs := #[.int .i64 (S)]) (t := 3) (fr := (0, 0)) (heap_alloc_new w3 _)) f4 (by decide) f1 f2 f3 ?_; intro gg cp w4 hown4 hgrow; have hr4 := ((YH.out.alloc (.cells #[.int .i64 (S)] 3)).grown hgrow).r1)
          have Y5 := (YH.out.alloc (.cells #[.int .i64 (S)] 3)).app (L4 := L0 ++ [S]) (by rw [List.map_append]; exact hown4) hgrow
          refine ⟨(YH.out.others hgrow).from _, ⟨(Y5.keep _ (List.mem_cons_self ..)).1.trans (YH.out.keep _ (List.mem_cons_self ..)).1.symm, (Y5.keep _ (List.mem_cons_of_mem _ (List.mem_cons_self ..))).1.trans (YH.out.keep _ (List.mem_cons_of_mem _ (List.mem_cons_self ..))).1.symm⟩, ⟨.slice (some ⟨gg, 0, none⟩) (pre.length + 1) cp, ?_⟩⟩
          rw [E1.out, E5.out, List.length_append]
          exact Y5
  case done =>
    rintro D2 ys W2 hD hys ⟨v, Y⟩ hK
    have yl : ys.length = m := by have := congrArg List.length hys; simpa using this
    have yL : ys.map (fun x : Fin m => chV (part l k x.1)) = chL l k m := by
      rw [chL, ← hys, List.map_map]; rfl
    rw [yl, yL] at Y
    clear yl yL hys
    obtain ⟨A', cp, rfl⟩ := row_any Y.row
    have hr := Y.own.r4
    have YH := hide Y
    clear Y cS cN
    have ml : m ≤ l.length := by rw [H3.out]; exact Nat.le_mul_of_pos_right m h1
    have cb : ∀ u ∈ chL l k m, -9223372036854775808 ≤ u ∧ u ≤ 9223372036854775807 := fun u hu => by
      obtain ⟨i, hi, rfl⟩ := List.mem_map.1 hu
      have hi' := List.mem_range.1 hi
      have h4 := H4.out i hi'
      have : -1 ≤ chV (part l k i) := by
        unfold chV
        split
        · omega
        · have := ps_nonneg (part l k i) (part l k i).length; omega
      omega
    have P2 := YH.out.post2 (rb := w.heap.size + 1) (eb := w.heap.size + 1 + 1) (D := D2) (List.mem_cons_of_mem _ (List.mem_cons_self ..)) (List.mem_cons_self ..) (by omega) (by omega) (by omega) (.int .i64 fr) (.int .i64 q) (.slice A' m cp) (.int .i64 0) (by omega) hK cb (by rw [chL_length]; omega) (by omega) (by omega)
    have PH := hide P2
    clear P2 cb
    gi_wp2
    refine ⟨by simp, .inl ⟨_, _, rfl, run_takeDeferred PH.out.1, ?_⟩⟩
    refine ⟨.tuple #[.agg #[.int .i64 fr, .int .i64 q, .slice A' m cp], .int .i64 0], ?_, PH.out.2.1⟩
    have c1 := PH.out.2.2.1
    have c2 := PH.out.2.2.2
    clear hr
    simp [results, Tryz.results17, c1, c2, go_sem]
  case stop =>
    rintro D2 c2 pre W2 _ _ h _
    exact h.elim
end Go.Proofs.YtkjndkeboeieoaaGreatDoor

namespace Go.Proofs.YtkjndkeboeieoaaGreatDoor
open Go.RowKit

/-- a row of k integers of which the first m are written -/
def repL (k m : Nat) (v : Int) : List Value := List.replicate m (.int .i64 v) ++ List.replicate (k - m) (.int .i64 0)
theorem repL_length {k m : Nat} (h : m ≤ k) (v : Int) : (repL k m v).length = k := by simp [repL]; omega
theorem repL_zero (k : Nat) (v : Int) : repL k 0 v = List.replicate k (.int .i64 0) := by simp [repL]
theorem repL_all (k : Nat) (v : Int) : repL k k v = List.replicate k (.int .i64 v) := by simp [repL]
theorem repL_at {k m j : Nat} (v : Int) (h : j < m) : (repL k m v)[j]? = some (.int .i64 v) := by
  rw [repL, List.getElem?_append_left (by simpa using h)]
  simp [h]
theorem repL_splice {k m j : Nat} (v : Int) : splice (repL k m v) m (List.replicate j (.int .i64 v)) = repL k (m + j) v := by
  have e1 : (repL k m v).take m = List.replicate m (.int .i64 v) := by simp [repL]
  have e2 : (repL k m v).drop (m + j) = List.replicate (k - (m + j)) (.int .i64 0) := by
    rw [repL, List.drop_append]
    simp
    omega
  rw [splice, e1, List.length_replicate, e2, repL, ← List.append_assoc, List.replicate_append_replicate]
/-- a row of the call's own that holds k times v -/
def RepPost (v : Int) (k : Nat) (w : World) (e : Ending) (w' : World) : Prop :=
  Below w.heap.size w w' ∧ ∃ g, e = .returned (.slice (some ⟨g, 0, none⟩) k k) ∧ w.heap.size ≤ g ∧ w'.heap[g]? = some (.cells (List.replicate k (.int .i64 v)).toArray 3 (0, 0))
theorem RepPost.mk {v : Int} {k g : Nat} {w w' : World} (hb : Below w.heap.size w w') (hg : w.heap.size ≤ g) (h : w'.heap[g]? = some (.cells (repL k k v).toArray 3 (0, 0))) : RepPost v k w (.returned (.slice (some ⟨g, 0, none⟩) k k)) w' := by
  rw [repL_all] at h
  exact ⟨hb, g, rfl, hg, h⟩
theorem int_size17 : (Tryz.prog.info? 3).map (·.size) = some 1 := by kernel_rfl
set_option maxRecDepth 100000 in
set_option maxHeartbeats 400000 in
theorem repeat_any (b off c k : Nat) (v : Int) (w : World) (hk : 1 ≤ k) (hk2 : k ≤ 10000) (hc : w.cell? ⟨b, off, none⟩ = some (.int .i64 v)) :
    Calls Tryz.prog 46 #[.slice (some ⟨b, off, none⟩) 1 c, .int .i64 (k : Int)] w (RepPost v k w) := by
  obtain ⟨i0, hi0, hz0, hz1, hz2⟩ := info_parts int_info17
  have MK : ∀ W : World, (Instr.makeSlice 22 (.int .i64 (k : Int)) (.int .i64 (k : Int))).run Tryz.prog W = .ok (.slice (some ⟨W.heap.size, 0, none⟩) k k) (W.alloc (.cells (repL k 0 v).toArray 3)) := fun W => by
    have := run_make_rowN (P := Tryz.prog) 22 3 i0 (.int .i64 0) Tryz.underlying22 hi0 hz0 .i64 .i64 k k (by omega) (by rw [hz2]; omega) (by omega) W
    rw [hz1] at this
    rw [Nat.mul_one] at this
    rw [show (repL k 0 v).toArray = madeCells (Value.int .i64 0).cells k from Array.ext' (by rw [repL_zero]; exact (toList_madeCells_one (.int .i64 0) k).symm)]
    exact this
  have M0 := fun W => Tryz.bits_Mul 1 k (by omega) (by omega) W
  have e1 : 1 * k / 18446744073709551616 = 0 := by omega
  have e2 : 1 * k % 18446744073709551616 = k := by omega
  rw [e1, e2] at M0
  have M := hide M0
  have kp : ¬ (k : Int) < 0 := by omega
  have u1 : IntKind.u64.wrap (k : Int) = (k : Int) := IntWalk.u64_in _ (by omega)
  clear M0 e1 e2
  go_enter Tryz.func46, Tryz.ntmps46
  have u2 := IntWalk.i64_in (k : Int) (by omega)
  have q1 : decide ((9223372036854775807 : Int) < (k : Int)) = false := decide_eq_false (by omega)
  go_wp2_with fail
  refine (M.out _).mono ?_
  rintro e w1 ⟨rfl, rfl⟩
  have hB0 : Below w1.heap.size w1 (w1.alloc (.cells (repL k 0 v).toArray 3)) := (Below.refl _ _).alloc (Nat.le_refl _) _
  have hc0 : (w1.alloc (.cells (repL k 0 v).toArray 3)).cell? ⟨b, off, none⟩ = some (.int .i64 v) := (hB0.cell (p := ⟨b, off, none⟩) (lt_of_cell hc)).trans hc
  have hg0 : (w1.alloc (.cells (repL k 0 v).toArray 3)).heap[w1.heap.size]? = some (.cells (repL k 0 v).toArray 3 (0, 0)) := heap_alloc_new w1 _
  have hsrc : ∀ (j : Nat) x, ([Value.int .i64 v] : List Value)[j]? = some x → (w1.alloc (.cells (repL k 0 v).toArray 3)).cell? ((⟨b, off, none⟩ : Addr).add j) = some x := fun j x hx => by
    cases j with
    | zero => simp at hx; subst hx; rw [show (⟨b, off, none⟩ : Addr).add 0 = ⟨b, off, none⟩ by simp [Addr.add]]; exact hc0
    | succ j => simp at hx
  have RC := run_copy_row (P := Tryz.prog) (w1.alloc (.cells (repL k 0 v).toArray 3)) 22 22 3 3 w1.heap.size 0 k k ⟨b, off, none⟩ 1 c (repL k 0 v).toArray 3 [.int .i64 v] Tryz.underlying22 int_size17 hg0 (by simp [Nat.min_def]; omega) hsrc (by simp [repL]; omega) (by simp [Value.oneCell'])
  have ER : List.take 0 (repL k 0 v).toArray.toList ++ [Value.int .i64 v] ++ List.drop (0 + [Value.int .i64 v].length) (repL k 0 v).toArray.toList = repL k 1 v := by
    have := repL_splice (k := k) (m := 0) (j := 1) v
    simp only [splice, Nat.zero_add, List.length_replicate] at this
    simpa using this
  rw [ER] at RC
  have HB := hide (And.intro (below_setRow hB0 (Nat.le_refl _) (repL k 1 v).toArray) (setRow_heap _ _ _ (repL k 1 v).toArray _ _ hg0))
  have hlen1 : goInt ([Value.int .i64 v] : List Value).length = .int .i64 1 := rfl
  rw [hlen1] at RC
  clear hsrc ER hlen1 hc0 hg0 hB0
  go_wp2
  have hcw := hide hc
  clear hc RC MK M
  generalize hW : World.setRow _ w1.heap.size (repL k 1 v).toArray = W2 at *
  clear hW
  go_loopw [8] (fun v8 wr => ∃ m : Nat, 1 ≤ m ∧ m ≤ k ∧ v8 = .int .i64 (m : Int) ∧ Hid (Below w1.heap.size w1 wr ∧ wr.heap[w1.heap.size]? = some (.cells (repL k m v).toArray 3 (0, 0)))) (fun v8 _ => k - (intOf v8).toNat)
  case atStart => exact ⟨1, Nat.le_refl _, hk, rfl, HB⟩
  case round =>
    obtain ⟨m, m1, mk, rfl, Y⟩ := hrel
    by_cases hlt : m < k
    · have g0 : (m : Int) < (k : Int) := by omega
      obtain ⟨j, hj, hj1, hj2, hj3⟩ : ∃ j, j = Nat.min m (k - m) ∧ m + j ≤ k ∧ j ≤ m ∧ 1 ≤ j := by
        refine ⟨Nat.min m (k - m), rfl, ?_⟩
        show m + min m (k - m) ≤ k ∧ min m (k - m) ≤ m ∧ 1 ≤ min m (k - m)
        omega
      have HJ := hide hj
      clear hj
      have q0 : ¬ (k : Int) = (m : Int) := by omega
      have q00 : ¬ k = m := by omega
      have t1 : ((m : Int)).toNat = m := by omega
      have s1 := IntWalk.i64_in ((m : Int) + (j : Int)) (by omega)
      have hB := Y.out.1
      have hg := Y.out.2
      have hsrc : ∀ (i : Nat) x, (List.replicate j (Value.int .i64 v))[i]? = some x → wr.drew.cell? ((⟨w1.heap.size, 0, none⟩ : Addr).add i) = some x := fun i x hx => by
        have hi : i < j := by
          have := (List.getElem?_eq_some_iff.1 hx).1
          simpa using this
        rw [show (⟨w1.heap.size, 0, none⟩ : Addr).add i = ⟨w1.heap.size, i, none⟩ by unfold Addr.add; split <;> simp_all]
        have h1 : wr.drew.cell? ⟨w1.heap.size, i, none⟩ = (repL k m v)[i]? := by
          have : wr.drew.heap[w1.heap.size]? = some (Obj.cells (repL k m v).toArray 3 (0, 0)) := hg
          simp [World.cell?, this]
        rw [h1, repL_at v (by omega)]
        simpa [hi] using hx
      go_wp2_with fail
      go_region_law (refine step_copy_splice rfl (.tmp 41) (.tmp 44) 22 22 rfl 3 Tryz.underlying22 int_size17 (some ⟨w1.heap.size, m, none⟩) (some ⟨w1.heap.size, 0, none⟩) (k - m) (k - m) m k (by go_simp) (by go_simp) w1.heap.size m (repL k m v) 3 hg (List.replicate j (.int .i64 v)) (by rw [List.length_replicate]; exact HJ.out) (fun _ => ⟨rfl, _, rfl, hsrc⟩) (by rw [List.length_replicate, repL_length mk]; exact hj1) (by intro x hx; rw [List.eq_of_mem_replicate hx]; rfl) w1.heap.size w1 (hB.drew) (Nat.le_refl _) ?_; intro w4 hg4 hb4)
      have HY := hide (And.intro hb4 hg4.out)
      rw [repL_splice] at HY
      clear hsrc hg hB hb4 hg4
      go_simp
      go_wp2
      go_roundw
      case rel => exact ⟨m + j, by omega, hj1, by go_num, HY⟩
      case measure => simp [intOf]; omega
    · obtain rfl : m = k := by omega
      go_wp2
      go_ret
      exact RepPost.mk Y.out.1 (Nat.le_refl _) Y.out.2
end Go.Proofs.YtkjndkeboeieoaaGreatDoor
