/- Parts of one proof, joined: The law GaugeBack returns true for every record and every text; nothing that was there is turned. (Printed by gen_ggbk.py.). The last step of a law's row, once for all laws: where the call answers true and nothing that was there has turned, the row's outcome is reached. What the proofs of rows with listed variables import, under one name. Records of rain as arguments: what a reading of them gives. Texts in rows: what is laid and the world's shape give what the texts' functions read; the wrap of a row that hands the world's shape on. -/
import Derived.Test.YtkjndkeboeieoaaGreatDoorPkGaugeBack6
import Derived.Test.YtkjndkeboeieoaaGreatDoorPkGaugeBack9
import Derived.Test.YtkjndkeboeieoaaGreatDoorPkGaugeBack12
import Derived.Test.YtkjndkeboeieoaaGreatDoorPkGaugeBack1
import Derived.ProofKit
import Derived.LaidMore
import Derived.OpenShut
import Derived.Stop.Joined
import Derived.SevenTiedAt
import Derived.Test.YtkjndkeboeieoaaGreatDoorPkGaugeBack2
import Derived.HandedShaped
import Derived.LaidLaws
namespace Go.Proofs.YtkjndkeboeieoaaGreatDoor
open Go Go.RowKit

theorem sameB_self (s : Ser) : sameB s s = true := by unfold sameB; exact decide_eq_true ⟨rfl, rfl, rfl⟩
set_option maxRecDepth 100000 in
set_option maxHeartbeats 4000000 in
theorem back17_law (s : Ser) (q : SerA) (x : ByteArray) (w : World) (hs : SerSl w s q) (hx : TxtW w) : Calls Tryz.prog 4 #[s.val q, .string x] w (BPost true w) := by
  obtain ⟨A, c⟩ := q
  have X := (Own.start w).alloc #[.int .i64 s.fr, .int .i64 s.st, .slice A s.ds.length c] 24
  have HS := hide (fun W (hb : Below w.heap.size w W) => hs.below hb)
  have HT := hide (hx.below X.1)
  clear hs hx
  have P1 : Hid (x.size ≤ 900000 → ∀ W, TxtW W → Calls Tryz.prog 10 #[.string x] W (PgPost x.data.toList W)) := hide (fun h W hW => by
    have := ggparse_any x.data.toList W (by simpa using h) hW
    rw [strV_data] at this
    exact this)
  have RB' : Hid ((prG x.data.toList).2.2 = 0 → vS (prG x.data.toList).1 = true ∧ ∀ a W, SerSl W (prG x.data.toList).1 a → TxtW W → Calls Tryz.prog 7 #[(prG x.data.toList).1.val a] W (RetV (.tuple #[.string x, .int .i64 0]) W)) := hide (fun h => by
    have e := (prG_err x.data.toList).1 h
    obtain ⟨hv, y, m, d, hD, ht⟩ := textG (x := (prG x.data.toList).1) (Prod.ext rfl (Prod.ext e h))
    refine ⟨hv, fun a W hW hx => ?_⟩
    have := ggtext_in (prG x.data.toList).1 a y m d W hW hv hD hx
    rw [ht, strV_data] at this
    exact this)
  obtain ⟨t, er2, hrel, CT0⟩ := ggtext_cases s ⟨A, c⟩
  have CT := hide CT0
  have VS0 := hide (fun W h => gvalid_any s ⟨A, c⟩ W h)
  clear CT0
  have hr := X.r1
  go_enter Tryz.func4, Tryz.ntmps4
  go_wp2_with fail
  refine (awake_any _).mono ?_
  rintro e w1 ⟨rfl, hb⟩
  replace X := X.to hb
  replace HT := hide (HT.out.below hb)
  clear hb hr
  have hr := X.r1
  have XB := X.alloc #[.int .i64 s.fr, .int .i64 s.st, .slice A s.ds.length c] 24
  have B0 := hide ((Below.refl w1.heap.size w1).alloc (Nat.le_refl _) (.cells #[.int .i64 s.fr, .int .i64 s.st, .slice A s.ds.length c] 24))
  go_wp2_with fail
  refine (few_one s ⟨A, c⟩ _ _ (XB.2 _ (List.mem_cons_self ..))).mono ?_
  rintro e w2 ⟨rfl, hb⟩
  replace X := (XB.to hb).tail
  replace HT := hide ((HT.out.below B0.out).below hb)
  clear hb hr XB B0
  have hr := X.r1
  by_cases h200 : 200 < s.ds.length
  · rw [long_yes h200]
    go_wp2
    go_ret
    exact ⟨rfl, X.1⟩
  rw [long_no (show s.ds.length ≤ 200 by omega)]
  by_cases h2 : 3000 < x.size
  · have q1 : decide ((3000 : Int) < (x.size : Int)) = true := decide_eq_true (by omega)
    go_wp2
    go_ret
    exact ⟨rfl, X.1⟩
  have q1 : decide ((3000 : Int) < (x.size : Int)) = false := decide_eq_false (by omega)
  have P1' := hide (P1.out (by omega))
  have HREL := hide hrel
  have hl200 : s.ds.length ≤ 10000 := by omega
  clear P1 h2 h200 hrel
  unfold PgPost at P1'
  generalize colG (prG x.data.toList).2.1 = cl at *
  generalize (prG x.data.toList).2.1 = ln at *
  generalize (prG x.data.toList).2.2 = er at *
  generalize (prG x.data.toList).1 = T1 at *
  go_wp2_with fail
  refine (P1'.out _ HT.out).mono ?_
  rintro e w3 ⟨hb, ⟨B, d⟩, rfl, hT1⟩
  have B1' := hide (((Below.refl w3.heap.size w3).alloc (Nat.le_refl _) (.cells #[.int .i64 T1.fr, .int .i64 T1.st, .slice B T1.ds.length d] 24)).alloc (by simp) (.cells #[.int .i64 ln, .int .i64 cl] 34))
  have X0 := ((X.to hb).alloc #[.int .i64 T1.fr, .int .i64 T1.st, .slice B T1.ds.length d] 24).alloc #[.int .i64 ln, .int .i64 cl] 34
  rw [World.size_alloc] at X0
  have X1 := hide X0
  have hT1' := hide (hT1.below B1'.out)
  replace HT := hide ((HT.out.below hb).below B1'.out)
  clear hb hr P1' X hT1 B1' X0
  have hr := X1.out.r3
  go_upto_if 33 with (fail)
  go_cut [] (fun wx => Hid (Own w wx [(w.heap.size, 24, #[.int .i64 s.fr, .int .i64 s.st, .slice A s.ds.length c])] ∧ TxtW wx))
  case first =>
    clear HREL CT
    by_cases he : er = 0
    · subst he
      obtain ⟨hv, T2'⟩ := RB'.out rfl
      have T2 := hide (T2' ⟨B, d⟩ _ hT1'.out HT.out)
      have V2 := hide (fun W h => gvalid_any T1 ⟨B, d⟩ W h)
      rw [hv] at V2
      have x1 : (x.toList == x.toList) = true := by simp
      clear RB' hv T2'
      go_wp2_with fail
      refine T2.out.mono ?_
      rintro e w4 ⟨rfl, hb⟩
      have X2 := hide (X1.out.to hb)
      replace HT := hide (HT.out.below hb)
      replace hT1' := hide (hT1'.out.below hb)
      clear hb hr X1 T2
      have hr := X2.out.r3
      go_wp2_with fail
      refine (V2.out _ hT1'.out).mono ?_
      rintro e w5 ⟨rfl, hb⟩
      have Y := hide (And.intro (X2.out.to hb).tail.tail (HT.out.below hb))
      clear hb hr X2 V2 hT1' HT
      go_wp2_with fail
      go_meet
      exact Y
    · have q : (er == 0) = false := by simpa using he
      have Y := hide (And.intro X1.out.tail.tail HT.out)
      clear he RB' X1 HT hT1'
      go_wp2_with fail
      go_meet
      exact Y
  case rest =>
    clear hr X1 HT hT1' RB'
    have X := hide hcut.out.1
    have HT := hide hcut.out.2
    clear hcut
    have hr := X.out.r1
    have T2 := hide (CT.out _ (HS.out _ X.out.1) HT.out)
    clear CT
    rcases HREL.out with ⟨hv, rfl, rfl⟩ | ⟨hv, _, rfl, rfl⟩ | ⟨_, rfl, _⟩
    · have V2 := hide (fun W (hb : Below w.heap.size w W) => VS0.out W (HS.out W hb))
      rw [hv] at V2
      clear VS0 HREL hv
      go_wp2_with fail
      refine T2.out.mono ?_
      rintro e w4 ⟨rfl, hb⟩
      replace X := hide (X.out.to hb)
      clear hb hr T2
      have hr := X.out.r1
      go_wp2_with fail
      refine (V2.out _ X.out.1).mono ?_
      rintro e w5 ⟨rfl, hb⟩
      replace X := hide (X.out.to hb)
      clear hb hr V2
      go_wp2
      go_ret
      exact ⟨rfl, X.out.1⟩
    · clear VS0 HREL hv
      go_wp2_with fail
      refine T2.out.mono ?_
      rintro e w4 ⟨rfl, hb⟩
      replace X := hide (X.out.to hb)
      clear hb hr T2
      have hr := X.out.r1
      go_wp2
      go_ret
      exact ⟨rfl, X.out.1⟩
    · obtain ⟨hv, hp, htl⟩ := HREL.out.back hl200
      have P4 := hide (fun W hW => ggparse_any t W (by omega) hW)
      unfold PgPost at P4
      rw [hp] at P4
      have P4 : Hid (∀ W, TxtW W → Calls Tryz.prog 10 #[strV t] W fun e w' => Below W.heap.size W w' ∧ ∃ a' : SerA, e = .returned (.tuple #[s.val a', .agg #[.int .i64 0, .int .i64 0], .int .i64 0]) ∧ SerSl w' s a') := P4
      clear HREL VS0 hv hp htl
      go_wp2_with fail
      refine T2.out.mono ?_
      rintro e w4 ⟨rfl, hb⟩
      replace X := hide (X.out.to hb)
      replace HT := hide (HT.out.below hb)
      clear hb hr T2
      have hr := X.out.r1
      go_wp2_with fail
      refine (P4.out _ HT.out).mono ?_
      rintro e w5 ⟨hb, ⟨B, d⟩, rfl, hT2⟩
      have B2' := hide (((Below.refl w5.heap.size w5).alloc (Nat.le_refl _) (.cells #[.int .i64 s.fr, .int .i64 s.st, .slice B s.ds.length d] 24)).alloc (by simp) (.cells #[.int .i64 0, .int .i64 0] 34))
      have X0 := ((X.out.to hb).alloc #[.int .i64 s.fr, .int .i64 s.st, .slice B s.ds.length d] 24).alloc #[.int .i64 0, .int .i64 0] 34
      rw [World.size_alloc] at X0
      have X1 := hide X0
      have S2 := hide (same_any s ⟨B, d⟩ s ⟨A, c⟩ _ (hT2.below B2'.out) (HS.out _ X1.out.1))
      rw [sameB_self] at S2
      clear hb hr X0 X hT2 B2' P4 HT
      have hr := X1.out.r3
      go_wp2_with fail
      refine S2.out.mono ?_
      rintro e w6 ⟨rfl, hb⟩
      have X2 := hide (X1.out.to hb)
      clear hb hr X1 S2
      go_wp2
      go_ret
      exact ⟨rfl, X2.out.1⟩
end Go.Proofs.YtkjndkeboeieoaaGreatDoor

namespace Go.Proofs.YtkjndkeboeieoaaGreatDoor
open Go.RowKit Go.ChangeShapes Go.WideShapes Go.ChangeAt

theorem own : ownKnob Tryz.prog.godebug = none := by kernel_rfl
theorem laidOut : laidOutB Tryz.prog = true := by kernel_rfl
section
variable {H : Type} {enc : TypeId × Value → H} {P : Program}
theorem trodAll_stays (hl : laidOutB P = true) {W W' : World} {sp : Nat → Bool} (hb : Below W.heap.size W W') :
    ∀ (ts : List TypeId) (vs : List Value) (ds : List (DataW H)) (ps : List MemPlace), ts.all (fun t => P.readableRec t && decide (t < P.types.size)) = true →
      DataW.TrodAll enc P W 0 (fun _ => true) true ts vs ds ps → (∀ p ∈ ps, p.block < W.heap.size) → (∀ p ∈ ps, sp p.block = true) → DataW.TrodAll enc P W' 0 sp true ts vs ds ps
  | [], vs, ds, ps, _, h, _, _ => by obtain ⟨rfl, rfl, rfl⟩ := trodAll_nil h; exact trodAll_mk0
  | t :: ts, vs, ds, ps, hr, h, hlt, hsp => by
    obtain ⟨v, vs', d, ds', p, q, rfl, rfl, rfl, h1, h2⟩ := trodAll_cons h
    simp only [List.all_cons, Bool.and_eq_true, decide_eq_true_eq] at hr
    exact trodAll_cons_mk (WideElems.Trod_stays hl hr.1.1 hr.1.2 h1 (fun x hx => hb.same (hlt x (by simp [hx]))) (fun x hx => hsp x (by simp [hx])))
      (trodAll_stays hl hb ts vs' ds' q hr.2 h2 (fun x hx => hlt x (by simp [hx])) (fun x hx => hsp x (by simp [hx])))
theorem trodAll_length : ∀ {w : World} {base : Nat} {sp : Nat → Bool} {hd : Bool} (ts : List TypeId) (vs : List Value) (ds : List (DataW H)) (ps : List MemPlace), DataW.TrodAll enc P w base sp hd ts vs ds ps → ds.length = ts.length
  | _, _, _, _, [], vs, ds, ps, h => by obtain ⟨rfl, rfl, rfl⟩ := trodAll_nil h; rfl
  | _, _, _, _, t :: ts, vs, ds, ps, h => by
    obtain ⟨v, vs', d, ds', p, q, rfl, rfl, rfl, h1, h2⟩ := trodAll_cons h
    simp [trodAll_length ts vs' ds' q h2]
theorem law_post {fn : Func} {s : ChangeSpec} {W W' : World} {args : Array Value} {ds gs : List (DataW H)} {before : List MemPlace} (hl : laidOutB P = true)
    (hread : fn.params.toList.all (fun t => P.readableRec t && decide (t < P.types.size)) = true) (hv : s.vars = []) (tb : TypeId) (hres : fn.resultTypes = #[tb]) (htb : P.underlying tb = some .bool)
    (hspec : ∀ ds : List (DataW H), ds.length = fn.params.size → s.fn H (ds ++ []) = { results := [.lit (.bool true)], args := ds })
    (hW : DataW.Whole enc P fn.params.toList s.vars false W args.toList ds gs before) (hb : Below W.heap.size W W') : s.post enc P fn false true false false W args (.bool true) W' := by
  have hW' := hW
  obtain ⟨p, q, hA, hV, hpq, _, _⟩ := hW
  rw [hv] at hV
  obtain ⟨rfl, rfl⟩ := trodVars_none hV
  have hlen : ds.length = fn.params.size := by simpa using trodAll_length _ _ _ _ hA
  have e := hspec ds hlen
  simp only [List.append_nil] at hpq
  subst hpq
  refine post_of_below (pa := before) (pv := []) hW' ?_ ?_ ?_ (by simp) hb ?_
  · intro b sp hd
    rw [e, hres]
    exact trodAll_mk1 (shut_bool htb true)
  · intro sp hsp
    rw [e]
    exact trodAll_stays hl hb _ _ _ _ hread hA (fun x hx => hW'.lt x hx) hsp
  · intro sp _
    rw [hv, e]
    rfl
  · exact ok_one hres rfl (okWide_bool_mk htb true)
end
end Go.Proofs.YtkjndkeboeieoaaGreatDoor

namespace Go.Proofs.YtkjndkeboeieoaaGreatDoor
open Go Go.RowKit
theorem i64_of_wf {n : Int} (h : (Lit.int .i64 n).wf = true) : -9223372036854775808 ≤ n ∧ n ≤ 9223372036854775807 := by
  simpa [Lit.wf, IntKind.min, IntKind.max, IntKind.signed, IntKind.bits] using h
theorem u32_of_wf {n : Int} (h : (Lit.int .u32 n).wf = true) : 0 ≤ n ∧ n ≤ 4294967295 := by
  simpa [Lit.wf, IntKind.min, IntKind.max, IntKind.signed, IntKind.bits] using h
end Go.Proofs.YtkjndkeboeieoaaGreatDoor

namespace Go.Proofs.YtkjndkeboeieoaaGreatDoor
set_option maxRecDepth 100000
open Go.RowKit Go.ChangeShapes Go.WideShapes Go.ChangeAt
section
variable {H : Type} {enc : TypeId × Value → H} {W : World} {v : Value} {d : DataW H} {p : List MemPlace} {b0 : Nat}
theorem ints_cellG {n : Nat} {y : DataW H × List MemPlace} (h : DataW.trod enc Tryz.prog W 0 (fun _ => true) true n 22 [v] = some y) : ∃ A cap l, v = .slice A (List.length l) cap ∧ IntSl W A l ∧ l.length ≤ cap ∧ (A = none → cap = 0) := by
  rcases open_ints Tryz.underlying22 Tryz.underlying3 (by kernel_rfl) h with ⟨hcs, _⟩ | ⟨a, len', cap', zs, hcs, _, hl, hm, hz, _, hcell, hwz⟩
  · simp only [List.cons.injEq, and_true] at hcs
    subst hcs
    exact ⟨none, 0, [], rfl, IntSl.nil _ _, by simp, fun _ => rfl⟩
  · simp only [List.cons.injEq, and_true] at hcs
    subst hcs
    simp only [if_true] at hz
    have hlen : (zs.take len').length = len' := by rw [List.length_take]; omega
    refine ⟨some a, cap', zs.take len', by rw [hlen], ⟨⟨?_, ?_⟩, ?_⟩, by rw [hlen]; exact hl, fun h => by cases h⟩
    · unfold maxLen at hm; omega
    · intro i hi
      have : (zs.take len')[i] ∈ zs := List.mem_of_mem_take (List.getElem_mem hi)
      have := hwz _ this
      simpa [Lit.wf, IntKind.min, IntKind.max, IntKind.signed, IntKind.bits] using this
    · intro h0
      obtain ⟨b, off, rfl, hc⟩ := ints_at hcell (by omega)
      refine ⟨b, off, rfl, ?_, fun i hi => ?_⟩
      · have := hc 0 (by omega)
        exact lt_of_cell (p := ⟨b, off + 0, none⟩) this
      · have hi' : i < zs.length := by omega
        rw [hc i hi']
        simp [hi']
theorem i64_of_wfG {x : Int} (h : (Lit.int .i64 x).wf = true) : -9223372036854775808 ≤ x ∧ x ≤ 9223372036854775807 := by
  simpa [Lit.wf, IntKind.min, IntKind.max, IntKind.signed, IntKind.bits] using h
set_option maxRecDepth 100000 in
theorem open_ser2 (hv : Value.okWide Tryz.prog W .any b0 24 v) (h : DataW.Trod enc Tryz.prog W 0 (fun _ => true) true 24 v d p) : ∃ c : Ser × SerA, v = c.1.val c.2 ∧ SerSl W c.1 c.2 ∧ (c.2.A = none → c.2.c = 0) := by
  obtain ⟨v0, v1, v2, y0, y1, y2, n, rfl, _, _, g0, g1, g2⟩ := Joins.open_agg3 Tryz.underlying24 (by kernel_rfl) (by kernel_rfl) hv h
  obtain ⟨x0, e0, _, w0⟩ := DataW.trod_int Tryz.underlying3 g0
  obtain ⟨x1, e1, _, w1⟩ := DataW.trod_int Tryz.underlying3 g1
  simp only [List.cons.injEq, and_true] at e0 e1
  subst e0 e1
  obtain ⟨A, c, l, rfl, h1, k1, k2⟩ := ints_cellG g2
  exact ⟨⟨⟨x0, x1, l⟩, ⟨A, c⟩⟩, rfl, ⟨h1, k1, i64_of_wfG w0, i64_of_wfG w1⟩, k2⟩
theorem open_ser (hv : Value.okWide Tryz.prog W .any b0 24 v) (h : DataW.Trod enc Tryz.prog W 0 (fun _ => true) true 24 v d p) : ∃ c : Ser × SerA, v = c.1.val c.2 ∧ SerSl W c.1 c.2 := by
  obtain ⟨c, e, h, _⟩ := open_ser2 hv h
  exact ⟨c, e, h⟩
/-- a byte as an argument -/
structure U8 where
  n : Nat
abbrev U8.val (x : U8) : Value := .int .u8 (x.n : Int)
theorem open_u8 (hv : Value.okWide Tryz.prog W .any b0 5 v) (h : DataW.Trod enc Tryz.prog W 0 (fun _ => true) true 5 v d p) : ∃ c : U8, v = c.val ∧ c.n ≤ 255 := by
  obtain ⟨x0, e0, _, w0⟩ := open_int Tryz.underlying5 hv h
  have w1 : 0 ≤ x0 ∧ x0 ≤ 255 := by simpa [Lit.wf, IntKind.min, IntKind.max, IntKind.signed, IntKind.bits] using w0.2
  exact ⟨⟨x0.toNat⟩, by rw [e0]; show _ = Value.int .u8 ((x0.toNat : Nat) : Int); rw [Int.toNat_of_nonneg w1.1], by show x0.toNat ≤ 255; omega⟩
end
end Go.Proofs.YtkjndkeboeieoaaGreatDoor

namespace Go.Proofs.YtkjndkeboeieoaaGreatDoor
open Go Go.RowKit Go.ChangeShapes

theorem len_of {s : ByteArray} (h : s.size ≤ maxLen) : s.size ≤ 9223372036854775807 := by unfold maxLen at h; omega
/-- a listed variable of an interface's type holds a value -/
theorem laid_iface {P : Program} {n nm : String} {d : DataW Unit} {r : List (String × DataW Unit)} {W : World} {g : Nat} {ti : TypeId} {ms : Array (String × TypeId)}
    (h : laidMet P ((n, .iface nm d) :: r) W) (hg : P.globalNamed n = some g) (ht : (P.globals[g]?).map (·.type) = some ti) (hi : P.underlying ti = some (.interface ms)) :
    ∃ ev, W.cell? ⟨g, 0, none⟩ = some ev ∧ (ev = .nilIface ∨ ∃ te pe, ev = .iface te pe) := by
  obtain ⟨ps, ⟨g0, t0, cs0, f0, p0, q0, hg0, ht0, hv0, hd0, _, _⟩, _, _⟩ := h
  obtain rfl := Option.some.inj (hg.symm.trans hg0)
  obtain rfl := Option.some.inj (ht.symm.trans ht0)
  obtain ⟨l0⟩ := cs0
  obtain ⟨_, u, v, e, _, _⟩ := iface_of_trod hi hd0
  have e' : l0 = [.iface u v] := e
  subst e'
  exact ⟨.iface u v, by simpa using World.var?_cell hg0 hv0 0, .inr ⟨u, v, rfl⟩⟩
/-- the wrap of a row that lists variables, with the world's shape -/
theorem handed_shaped {H : Type} {enc : TypeId × Value → H} {a : Assume} {C : Checked} {os : Os} {f : FuncId} {fn : Func} {s : ChangeSpec} {conds : List PathCond} {apart fresh handsOn again : Bool} {X : World → Array Value → Prop}
    (hX : ∀ (w w' : World) (args : Array Value), w.heap = w'.heap → X w args → X w' args) (own : ownKnob C.prog.godebug = none) (started : os.Started) (noInit : C.prog.inits.idxOf? f = none) (hfn : C.prog.funcs[f]? = some fn)
    (witness : ∃ (w : World) (tape : Tape) (i : Input), w.os = os ∧ (w.forCall tape i).Shaped C.prog ∧ i.vars = [] ∧ Input.okWide C.prog (w.forCall tape i) .any w.heap.size f i ∧
      ((s.pre enc C.prog fn conds apart (w.forCall tape i).memory i.args ∧ X (w.forCall tape i).memory i.args) ∧ sizedMet enc C.prog fn (OpenSpec.ofChange s) apart (w.forCall tape i).memory i.args) ∧ a.holds C.prog (lone (Frame.enter C.prog f i.args .normal) [] (w.forCall tape i)))
    (contract : ∀ (W : World) (base : Nat) (args : Array Value) (ds gs : List (DataW H)) (before : List MemPlace),
      (∀ (j : Nat) t v, fn.params[j]? = some t → args[j]? = some v → Value.okWide C.prog W .any base t v) → DataW.Whole enc C.prog fn.params.toList s.vars apart W args.toList ds gs before →
      X W args → W.ShapedOpen C.prog → Calls C.prog f args W fun e W' => ∃ v, e = .returned v ∧ s.post enc C.prog fn apart fresh handsOn again W args v W') :
    ReturnsInHanded a C os f .any (fun w args => (s.pre enc C.prog fn conds apart w args ∧ X w args) ∧ sizedMet enc C.prog fn (OpenSpec.ofChange s) apart w args) (s.post enc C.prog fn apart fresh handsOn again) := by
  refine returnsInHanded_of_calls own started noInit witness fun w tape i _ shape _ ok pre _ => ?_
  obtain ⟨_, _, _, fn2, hfn2, _, _, _, _, vals⟩ := ok
  obtain rfl : fn2 = fn := Option.some.inj (hfn2.symm.trans hfn)
  obtain ⟨⟨⟨ds, gs, before, whole, _⟩, x⟩, _⟩ := pre
  refine (contract (w.forCall tape i) w.heap.size i.args ds gs before vals (DataW.Whole.of_heap (w' := w.forCall tape i) (by rfl) whole) (hX _ _ _ (by rfl) x) shape).mono ?_
  rintro e W' ⟨v, rfl, hp⟩
  exact ChangeSpec.post_blind hp
end Go.Proofs.YtkjndkeboeieoaaGreatDoor
