/- Parts of one proof, joined: The first side of a face that a point is outside of: what outer returns; nothing that was there is turned (printed by gen_lco.py). The last step of a law's row, once for all laws: where the call answers true and nothing that was there has turned, the row's outcome is reached. Maps whose keys are points or pairs of integers and whose elements are bools, that the call made: look-up and store. The program's triangle, separates, and the two functions that Check hands on: what each returns; nothing that was there is turned. The program's separates: whether a side of a triangle has another triangle on its right; nothing that was there is turned (printed by gen_sep.py). slices.IndexFunc and slices.ContainsFunc at integers, with a function that captures nothing and turns nothing. -/
import Derived.Test.YtlnlaopokelggaaGreatDoorPkCostsTexts7
import Derived.Deep.Cut
import Derived.Test.YtlnlaopokelggaaGreatDoorPkCostsTexts2
import Derived.Test.YtlnlaopokelggaaGreatDoorPkCostsTexts3
import Derived.Maps.OwnOps
import Derived.DeepKeys5
import Derived.WideKeyPair
import Derived.Test.YtlnlaopokelggaaGreatDoorPkCostsTexts6
import Derived.Deep.DeepCutAuto
import Derived.Deep.QuietTactic
import Derived.BigQuiet
namespace Go.Proofs.YtlnlaopokelggaaGreatDoor
open Go Go.RowKit

/-- the first side on the right of which a point is -/
def otA (t : Tri) (p : Pnt) : Int := if trn t.p t.q p < 0 then 0 else if trn t.q t.r p < 0 then 1 else if trn t.r t.p p < 0 then 2 else -1
theorem otA_on (t : Tri) (p : Pnt) : otA t p < 0 ↔ onB t p = true := by
  simp only [otA, onB, Bool.and_eq_true, decide_eq_true_eq]
  split
  · omega
  · split
    · omega
    · split <;> omega
abbrev cnC (s t u : Spt) : Array Value := #[.int .i64 s.x, .int .i64 s.y, .int .i64 s.z, .int .i64 t.x, .int .i64 t.y, .int .i64 t.z, .int .i64 u.x, .int .i64 u.y, .int .i64 u.z]
set_option maxRecDepth 100000 in
set_option maxHeartbeats 8000000 in
theorem lcouter_any (m : Msh) (a : MshA) (i : Nat) (p : Pnt) (w : World) (hm : MshSl w m a) (hi : i < m.fs.length) (hk : OkF m.ss m.fs[i]) (hp : p.in) :
    Calls Tryz.prog 158 #[m.val a, .int .i64 (i : Int), p.val] w (RetW (.int .i64 (otA (triA m.ss m.fs[i]) p)) w) := by
  have CR := hide (fun W h => lccorners_any m a i W h hi hk)
  have HM := hide hm
  unfold cnV RetW at CR
  have E : Hid (otA (triA m.ss m.fs[i]) p = otA ⟨(spA m.ss m.fs[i].a).pt, (spA m.ss m.fs[i].b).pt, (spA m.ss m.fs[i].c).pt⟩ p) := hide rfl
  have T0 := hide (fun W => lcturn_any (spA m.ss m.fs[i].a).pt (spA m.ss m.fs[i].b).pt p W hk.i.1 hk.i.2.1 hp)
  have T1 := hide (fun W => lcturn_any (spA m.ss m.fs[i].b).pt (spA m.ss m.fs[i].c).pt p W hk.i.2.1 hk.i.2.2 hp)
  have T2 := hide (fun W => lcturn_any (spA m.ss m.fs[i].c).pt (spA m.ss m.fs[i].a).pt p W hk.i.2.2 hk.i.1 hp)
  rw [E.out]
  clear hm hk hp E
  generalize spA m.ss m.fs[i].a = s at *
  generalize spA m.ss m.fs[i].b = t at *
  generalize spA m.ss m.fs[i].c = u at *
  have A0 := hide (fun W => lcat_any s W)
  have A1 := hide (fun W => lcat_any t W)
  have A2 := hide (fun W => lcat_any u W)
  unfold RetW at T0 T1 T2 A0 A1 A2
  have E : Hid (otA ⟨s.pt, t.pt, u.pt⟩ p = if trn s.pt t.pt p < 0 then 0 else if trn t.pt u.pt p < 0 then 1 else if trn u.pt s.pt p < 0 then 2 else -1) := hide rfl
  rw [E.out]
  clear E
  obtain ⟨R, hR⟩ : ∃ R : Int, R = if trn s.pt t.pt p < 0 then 0 else if trn t.pt u.pt p < 0 then 1 else if trn u.pt s.pt p < 0 then 2 else -1 := ⟨_, rfl⟩
  rw [← hR]
  replace hR := hide hR
  generalize trn s.pt t.pt p = n0 at *
  generalize trn t.pt u.pt p = n1 at *
  generalize trn u.pt s.pt p = n2 at *
  obtain ⟨A1', c1, A2', c2⟩ := a
  have X := ((Own.start w).alloc #[.slice A1' m.ss.length c1, .slice A2' m.fs.length c2] 52).alloc #[.int .i64 p.x, .int .i64 p.y] 55
  simp only [World.size_alloc] at X
  have hr := X.r2
  unfold Spt.pt at *
  obtain ⟨sx, sy, sz⟩ := s
  obtain ⟨tx, ty, tz⟩ := t
  obtain ⟨ux, uy, uz⟩ := u
  simp only at *
  go_enter Tryz.func158, Tryz.ntmps158
  go_wp2_with fail
  refine (CR.out _ (HM.out.below X.1)).mono ?_
  rintro e w1 ⟨rfl, hb⟩
  have HX := hide ((X.to hb).alloc #[.int .i64 sx, .int .i64 sy, .int .i64 sz, .int .i64 tx, .int .i64 ty, .int .i64 tz, .int .i64 ux, .int .i64 uy, .int .i64 uz] 205)
  clear hb hr X CR HM
  have hr := HX.out.r3
  go_wp2
  go_loopw [12] (fun v12 wr => ∃ k : Nat, k ≤ 3 ∧ v12 = .int .i64 k ∧ Hid (Own w wr [(w1.heap.size, 205, #[.int .i64 sx, .int .i64 sy, .int .i64 sz, .int .i64 tx, .int .i64 ty, .int .i64 tz, .int .i64 ux, .int .i64 uy, .int .i64 uz]), (w.heap.size + 1, 55, #[.int .i64 p.x, .int .i64 p.y]), (w.heap.size, 52, #[.slice A1' m.ss.length c1, .slice A2' m.fs.length c2])]) ∧ Hid ((0 < k → ¬ n0 < 0) ∧ (1 < k → ¬ n1 < 0) ∧ (2 < k → ¬ n2 < 0))) (fun v _ => 3 - (intOf v).toNat)
  case atStart => exact ⟨0, by omega, rfl, HX, hide ⟨by omega, by omega, by omega⟩⟩
  case round =>
    obtain ⟨k, hk, rfl, HX, HN⟩ := hrel
    have hr := HX.out.r3
    have NE := ownw_ne HX.out
    have C1 := ownw_r3 HX.out
    obtain rfl | rfl | rfl | rfl : k = 0 ∨ k = 1 ∨ k = 2 ∨ k = 3 := by omega
    · have s1 : IntKind.i64.wrap 1 = 1 := by decide
      have s2 : (1 : Int).tmod 3 = 1 := by decide
      go_upto_region 5 with (fail)
      refine wp_region_own (w := w) (by kernel_rfl) (by kernel_rfl) HX.out ?_
      repeat (go_big_quiet_step ((rename_i y; first | with_reducible exact own_call (A0.out _) | with_reducible exact own_call (A1.out _) | with_reducible exact own_call (A2.out _) | with_reducible exact own_call (T0.out _))))
      refine wpQuiet_nil ?_
      rintro _ ⟨⟨W, HW⟩, rfl⟩
      have HX2 := hide HW
      clear NE C1 HW hr
      by_cases h : n0 < 0
      · have HB := hide HX2.out.1
        have EQ : Hid (R = 0) := hide (by
          have := HN.out
          rw [hR.out, if_pos h])
        go_wp2
        go_ret
        exact ⟨ret_int EQ.out.symm, HB.out⟩
      · have HN2 : Hid ((0 < 1 → ¬ n0 < 0) ∧ (1 < 1 → ¬ n1 < 0) ∧ (2 < 1 → ¬ n2 < 0)) := hide (by
          have := HN.out
          exact ⟨by omega, by omega, by omega⟩)
        go_wp2
        go_roundw
        case rel => exact ⟨1, by omega, by go_num, HX2, HN2⟩
        case measure => simp [intOf]
    · have s1 : IntKind.i64.wrap 2 = 2 := by decide
      have s2 : (2 : Int).tmod 3 = 2 := by decide
      go_upto_region 5 with (fail)
      refine wp_region_own (w := w) (by kernel_rfl) (by kernel_rfl) HX.out ?_
      repeat (go_big_quiet_step ((rename_i y; first | with_reducible exact own_call (A0.out _) | with_reducible exact own_call (A1.out _) | with_reducible exact own_call (A2.out _) | with_reducible exact own_call (T1.out _))))
      refine wpQuiet_nil ?_
      rintro _ ⟨⟨W, HW⟩, rfl⟩
      have HX2 := hide HW
      clear NE C1 HW hr
      by_cases h : n1 < 0
      · have HB := hide HX2.out.1
        have EQ : Hid (R = 1) := hide (by
          have := HN.out
          rw [hR.out, if_neg (this.1 (by omega)), if_pos h])
        go_wp2
        go_ret
        exact ⟨ret_int EQ.out.symm, HB.out⟩
      · have HN2 : Hid ((0 < 2 → ¬ n0 < 0) ∧ (1 < 2 → ¬ n1 < 0) ∧ (2 < 2 → ¬ n2 < 0)) := hide (by
          have := HN.out
          exact ⟨by omega, by omega, by omega⟩)
        go_wp2
        go_roundw
        case rel => exact ⟨2, by omega, by go_num, HX2, HN2⟩
        case measure => simp [intOf]
    · have s1 : IntKind.i64.wrap 3 = 3 := by decide
      have s2 : (3 : Int).tmod 3 = 0 := by decide
      go_upto_region 5 with (fail)
      refine wp_region_own (w := w) (by kernel_rfl) (by kernel_rfl) HX.out ?_
      repeat (go_big_quiet_step ((rename_i y; first | with_reducible exact own_call (A0.out _) | with_reducible exact own_call (A1.out _) | with_reducible exact own_call (A2.out _) | with_reducible exact own_call (T2.out _))))
      refine wpQuiet_nil ?_
      rintro _ ⟨⟨W, HW⟩, rfl⟩
      have HX2 := hide HW
      clear NE C1 HW hr
      by_cases h : n2 < 0
      · have HB := hide HX2.out.1
        have EQ : Hid (R = 2) := hide (by
          have := HN.out
          rw [hR.out, if_neg (this.1 (by omega)), if_neg (this.2.1 (by omega)), if_pos h])
        go_wp2
        go_ret
        exact ⟨ret_int EQ.out.symm, HB.out⟩
      · have HN2 : Hid ((0 < 3 → ¬ n0 < 0) ∧ (1 < 3 → ¬ n1 < 0) ∧ (2 < 3 → ¬ n2 < 0)) := hide (by
          have := HN.out
          exact ⟨by omega, by omega, by omega⟩)
        go_wp2
        go_roundw
        case rel => exact ⟨3, by omega, by go_num, HX2, HN2⟩
        case measure => simp [intOf]
    · have EQ : Hid (R = -1) := hide (by
        have := HN.out
        rw [hR.out, if_neg (this.1 (by omega)), if_neg (this.2.1 (by omega)), if_neg (this.2.2 (by omega))])
      have HB := hide HX.out.1
      clear NE C1
      go_wp2
      go_ret
      exact ⟨ret_int EQ.out.symm, HB.out⟩
end Go.Proofs.YtlnlaopokelggaaGreatDoor

namespace Go.Proofs.YtlnlaopokelggaaGreatDoor
open Go.RowKit Go.ChangeShapes Go.WideShapes Go.ChangeAt

theorem own : ownKnob Tryz.prog.godebug = none := by kernel_rfl
theorem laidOut : laidOutB Tryz.prog = true := by kernel_rfl
section
variable {H : Type} {enc : TypeId × Value → H} {P : Program}
theorem trodAll_stays (hl : laidOutB P = true) {W W' : World} {sp : Nat → Bool} (hb : Below W.heap.size W W') :
    ∀ (ts : List TypeId) (vs : List Value) (ds : List (DataW H)) (ps : List MemPlace), ts.all (fun t => P.readableRec t && decide (t < P.types.size)) = true →
      DataW.TrodAll enc P W 0 (fun _ => true) true ts vs ds ps → (∀ p ∈ ps, p.block < W.heap.size) → (∀ p ∈ ps, sp p.block = true) → DataW.TrodAll enc P W' 0 sp true ts vs ds ps
  | [], vs, ds, ps, _, h, _, _ => by obtain ⟨rfl, rfl, rfl⟩ := trodAll_nil h; exact trodAll_mk0
  | t :: ts, vs, ds, ps, hr, h, hlt, hsp => by
    obtain ⟨v, vs', d, ds', p, q, rfl, rfl, rfl, h1, h2⟩ := trodAll_cons h
    simp only [List.all_cons, Bool.and_eq_true, decide_eq_true_eq] at hr
    exact trodAll_cons_mk (WideElems.Trod_stays hl hr.1.1 hr.1.2 h1 (fun x hx => hb.same (hlt x (by simp [hx]))) (fun x hx => hsp x (by simp [hx])))
      (trodAll_stays hl hb ts vs' ds' q hr.2 h2 (fun x hx => hlt x (by simp [hx])) (fun x hx => hsp x (by simp [hx])))
theorem trodAll_length : ∀ {w : World} {base : Nat} {sp : Nat → Bool} {hd : Bool} (ts : List TypeId) (vs : List Value) (ds : List (DataW H)) (ps : List MemPlace), DataW.TrodAll enc P w base sp hd ts vs ds ps → ds.length = ts.length
  | _, _, _, _, [], vs, ds, ps, h => by obtain ⟨rfl, rfl, rfl⟩ := trodAll_nil h; rfl
  | _, _, _, _, t :: ts, vs, ds, ps, h => by
    obtain ⟨v, vs', d, ds', p, q, rfl, rfl, rfl, h1, h2⟩ := trodAll_cons h
    simp [trodAll_length ts vs' ds' q h2]
theorem law_post {fn : Func} {s : ChangeSpec} {W W' : World} {args : Array Value} {ds gs : List (DataW H)} {before : List MemPlace} (hl : laidOutB P = true)
    (hread : fn.params.toList.all (fun t => P.readableRec t && decide (t < P.types.size)) = true) (hv : s.vars = []) (tb : TypeId) (hres : fn.resultTypes = #[tb]) (htb : P.underlying tb = some .bool)
    (hspec : ∀ ds : List (DataW H), ds.length = fn.params.size → s.fn H (ds ++ []) = { results := [.lit (.bool true)], args := ds })
    (hW : DataW.Whole enc P fn.params.toList s.vars false W args.toList ds gs before) (hb : Below W.heap.size W W') : s.post enc P fn false true false false W args (.bool true) W' := by
  have hW' := hW
  obtain ⟨p, q, hA, hV, hpq, _, _⟩ := hW
  rw [hv] at hV
  obtain ⟨rfl, rfl⟩ := trodVars_none hV
  have hlen : ds.length = fn.params.size := by simpa using trodAll_length _ _ _ _ hA
  have e := hspec ds hlen
  simp only [List.append_nil] at hpq
  subst hpq
  refine post_of_below (pa := before) (pv := []) hW' ?_ ?_ ?_ (by simp) hb ?_
  · intro b sp hd
    rw [e, hres]
    exact trodAll_mk1 (shut_bool htb true)
  · intro sp hsp
    rw [e]
    exact trodAll_stays hl hb _ _ _ _ hread hA (fun x hx => hW'.lt x hx) hsp
  · intro sp _
    rw [hv, e]
    rfl
  · exact ok_one hres rfl (okWide_bool_mk htb true)
end
end Go.Proofs.YtlnlaopokelggaaGreatDoor

namespace Go.Proofs.YtlnlaopokelggaaGreatDoor
open Go Go.RowKit Go.WideMaps

theorem wf_i64 {n : Int} (h : i64 n) : (Lit.int .i64 n).wf = true := by
  unfold i64 at h
  simp [Lit.wf, IntKind.min, IntKind.max, IntKind.signed, IntKind.bits]
  omega
theorem pt_keyed : Maps.Keyed Tryz.prog 55 := Maps.Keyed.of_law (deep_law_gate laidOut (of_decide_eq_true (by kernel_rfl)) (of_decide_eq_true (by kernel_rfl)) (by kernel_rfl) (by kernel_rfl))
theorem sd_keyed : Maps.Keyed Tryz.prog 150 := Maps.Keyed.of_law (deep_law_gate laidOut (of_decide_eq_true (by kernel_rfl)) (of_decide_eq_true (by kernel_rfl)) (by kernel_rfl) (by kernel_rfl))
theorem types_pos : ∃ m, Tryz.prog.types.size = m + 1 := Nat.exists_eq_succ_of_ne_zero (fun e => by
  have : (Tryz.prog.types.size == 0) = false := by kernel_rfl
  rw [e] at this
  cases this)
theorem int_key (d : Nat) {n : Int} (h : i64 n) : Tryz.prog.keyLits (d + 1) 3 [.int .i64 n] = some [.int .i64 n] := by
  unfold Program.keyLits
  rw [Tryz.underlying3]
  simp [wf_i64 h]
theorem pt_key (p : Pnt) (hx : i64 p.x) (hy : i64 p.y) : keyOf Tryz.prog 55 p.val = some (.string (keyBytes [.int .i64 p.x, .int .i64 p.y])) := by
  have hkt : Tryz.prog.keyType 55 = true := by kernel_rfl
  have hc : Tryz.prog.cellsOf 55 = 2 := by kernel_rfl
  have hi : Tryz.prog.cellsOf 3 = 1 := by kernel_rfl
  obtain ⟨m, hm⟩ := types_pos
  unfold keyOf
  simp only [Tryz.underlying55]
  rw [if_pos (by simp [hkt, Value.formed, Tryz.underlying55, hc]), hm]
  obtain ⟨m', rfl⟩ : ∃ m', m = m' + 1 := Nat.exists_eq_succ_of_ne_zero (fun e => by
    have : (Tryz.prog.types.size == 1) = false := by kernel_rfl
    rw [hm, e] at this
    cases this)
  unfold Program.keyLits
  simp only [Tryz.underlying55, Value.cells]
  rw [if_pos (by rw [hc]; exact ⟨rfl, by kernel_rfl⟩)]
  have e1 := int_key (m' + 1) hx
  have e2 := int_key (m' + 1) hy
  simp [hi, e1, e2]
theorem sd_key (a b : Int) (hx : i64 a) (hy : i64 b) : keyOf Tryz.prog 150 (.agg #[.int .i64 a, .int .i64 b]) = some (.string (keyBytes [.int .i64 a, .int .i64 b])) :=
  keyOf_pair (e := 3) ⟨Tryz.underlying150, by kernel_rfl, by kernel_rfl, by kernel_rfl⟩ Tryz.underlying3 types_pos (wf_i64 hx) (wf_i64 hy)
/-- an element that reads as a bool is that bool -/
theorem plainBool_inv {e : TypeId} (he : Tryz.prog.underlying e = some .bool) {v : Value} {z : DataW Unit × List MemPlace} (h : plainElem Tryz.prog e v = some z) : ∃ b, v = .bool b ∧ z = (.lit (.bool b), []) := by
  unfold plainElem at h
  rw [he] at h
  cases v <;> simp at h
  exact ⟨_, rfl, h.symm⟩
abbrev MapB (W : World) (k b n : Nat) (D : DataW Unit) : Prop := W.ownsMap Tryz.prog k (plainElem (H := Unit) Tryz.prog 4) b n D
theorem zero_bool (W : World) : (zeroValue 4).run Tryz.prog W = .ok (.bool false) W := Tryz.zeroValue4 W
theorem MapB.look {W : World} {k t b n : Nat} {D : DataW Unit} (h : MapB W k b n D) (K : Maps.Keyed Tryz.prog k) (ht : Tryz.prog.underlying t = some (.map k 4)) {key : Value} {kl : Lit} (hkey : keyOf Tryz.prog k key = some kl) :
    ∃ c : Bool, (Instr.lookup t (.map (some b)) key false).run Tryz.prog W = .ok (.bool c) W ∧ D.atKey kl (.lit (.bool false)) = .lit (.bool c) := by
  obtain ⟨v, ps, hrun, hv⟩ := World.ownsMap.lookup h K ht (zero_bool W) (Go.plainElem_bool Tryz.underlying4 false) hkey
  obtain ⟨c, rfl, hc⟩ := plainBool_inv Tryz.underlying4 hv
  simp only [Prod.mk.injEq] at hc
  exact ⟨c, hrun, hc.1⟩
/-- the map says yes at just these keys -/
def Says (D : DataW Unit) (key : Lit → Prop) : Prop := Maps.IsMap D ∧ ∀ l, WideAt.IsKeyLit l → ∃ c : Bool, D.atKey l (.lit (.bool false)) = .lit (.bool c) ∧ (c = true ↔ key l)
theorem Says.empty : Says (.map []) (fun _ => False) := ⟨⟨[], rfl⟩, fun l _ => ⟨false, rfl, by simp⟩⟩
theorem Says.put {D : DataW Unit} {key : Lit → Prop} (h : Says D key) {k : Lit} (hk : WideAt.IsKeyLit k) : Says (D.put k (.lit (.bool true))) (fun l => l = k ∨ key l) := by
  refine ⟨h.1.put k _, fun l hl => ?_⟩
  by_cases e : l = k
  · subst e
    exact ⟨true, Maps.atKey_put_same h.1 hl _ _, by simp⟩
  · obtain ⟨c, h1, h2⟩ := h.2 l hl
    exact ⟨c, (Maps.atKey_put_other e _ _).trans h1, by simp [e, h2]⟩
theorem MapB.says {W : World} {k t b n : Nat} {D : DataW Unit} {key : Lit → Prop} (h : MapB W k b n D) (K : Maps.Keyed Tryz.prog k) (ht : Tryz.prog.underlying t = some (.map k 4)) (hs : Says D key) {kv : Value} {kl : Lit} (hkey : keyOf Tryz.prog k kv = some kl) :
    ∃ c : Bool, (Instr.lookup t (.map (some b)) kv false).run Tryz.prog W = .ok (.bool c) W ∧ (c = true ↔ key kl) := by
  obtain ⟨c, h1, h2⟩ := h.look K ht hkey
  obtain ⟨c', h3, h4⟩ := hs.2 kl (K.key hkey)
  rw [h3] at h2
  injection h2 with h2
  injection h2 with h2
  subst h2
  exact ⟨c', h1, h4⟩
end Go.Proofs.YtlnlaopokelggaaGreatDoor

namespace Go.Proofs.YtlnlaopokelggaaGreatDoor
open Go Go.RowKit

theorem below_go {a w w' : World} (h : Below a.heap.size a w) (k : Below w.heap.size w w') : Below a.heap.size a w' := below_via h h.size k
set_option maxRecDepth 100000 in
set_option maxHeartbeats 4000000 in
theorem mstri_any (m : Msh) (a : MshA) (f : Fce) (w : World) (hm : MshSl w m a) (ha : 0 ≤ f.a ∧ f.a < m.ss.length) (hb : 0 ≤ f.b ∧ f.b < m.ss.length) (hc : 0 ≤ f.c ∧ f.c < m.ss.length) :
    Calls Tryz.prog 91 #[m.val a, f.val] w (RetW (.agg (triA m.ss f).cells.toArray) w) := by
  have X := (((Own.start w).alloc (m.cells a) 52).alloc #[.int .i64 f.a, .int .i64 f.b, .int .i64 f.c, .int .i64 f.k] 49).alloc #[.int .i64 0, .int .i64 0, .int .i64 0, .int .i64 0, .int .i64 0, .int .i64 0] 147
  simp only [World.size_alloc] at X
  have HM := hide hm
  obtain ⟨A1, c1, A2, c2⟩ := a
  have PA := hide (fun W h => mspoint_any m ⟨A1, c1, A2, c2⟩ f.a W h ha.1 ha.2)
  have PB := hide (fun W h => mspoint_any m ⟨A1, c1, A2, c2⟩ f.b W h hb.1 hb.2)
  have PC := hide (fun W h => mspoint_any m ⟨A1, c1, A2, c2⟩ f.c W h hc.1 hc.2)
  have et : Hid ((triA m.ss f).cells = [.int .i64 (spA m.ss f.a).pt.x, .int .i64 (spA m.ss f.a).pt.y, .int .i64 (spA m.ss f.b).pt.x, .int .i64 (spA m.ss f.b).pt.y, .int .i64 (spA m.ss f.c).pt.x, .int .i64 (spA m.ss f.c).pt.y]) := hide rfl
  generalize (triA m.ss f).cells = tc at *
  generalize (spA m.ss f.a).pt = p at *
  generalize (spA m.ss f.b).pt = q at *
  generalize (spA m.ss f.c).pt = r at *
  unfold RetW at PA PB PC
  clear hm ha hb hc
  go_enter Tryz.func91, Tryz.ntmps91
  go_wp2
  generalize (((w.alloc (.cells #[.slice A1 m.ss.length c1, .slice A2 m.fs.length c2] 52)).alloc (.cells #[.int .i64 f.a, .int .i64 f.b, .int .i64 f.c, .int .i64 f.k] 49)).alloc (.cells #[.int .i64 0, .int .i64 0, .int .i64 0, .int .i64 0, .int .i64 0, .int .i64 0] 147)) = W at *
  have hr := X.r3
  have HX := hide X
  have HMW := hide (fun W' (h : Below W.heap.size W W') => HM.out.below (below_via HX.out.1 HX.out.1.size h))
  have KC := hide (fun W' (h : Below W.heap.size W W') => And.intro ((h.cell (p := ⟨w.heap.size, 0, none⟩) hr.2.2.2.2).trans (hr.2.2.1 0)) (And.intro ((h.cell (p := ⟨w.heap.size, 1, none⟩) hr.2.2.2.2).trans (hr.2.2.1 1))
    (And.intro ((h.cell (p := ⟨w.heap.size + 1, 0, none⟩) hr.2.1.2.2).trans (hr.2.1.1 0)) (And.intro ((h.cell (p := ⟨w.heap.size + 1, 1, none⟩) hr.2.1.2.2).trans (hr.2.1.1 1)) ((h.cell (p := ⟨w.heap.size + 1, 2, none⟩) hr.2.1.2.2).trans (hr.2.1.1 2))))))
  clear X
  have n1 : ¬ (w.heap.size = w.heap.size + 1 + 1) := by omega
  have n2 : ¬ (w.heap.size + 1 + 1 = w.heap.size) := by omega
  go_region_held3 (fun w' => w'.cell? ⟨w.heap.size, 0, none⟩ = some (.slice A1 m.ss.length c1) ∧ w'.cell? ⟨w.heap.size, 1, none⟩ = some (.slice A2 m.fs.length c2) ∧ w'.cell? ⟨w.heap.size + 1, 0, none⟩ = some (.int .i64 f.a) ∧ w'.cell? ⟨w.heap.size + 1, 1, none⟩ = some (.int .i64 f.b) ∧ w'.cell? ⟨w.heap.size + 1, 2, none⟩ = some (.int .i64 f.c)) (go_keep)
    (first
      | (go_at_call 87; (first | (with_reducible refine Calls.mono (PA.out _ (HMW.out _ (by go_grown))) ?_) | (with_reducible refine Calls.mono (PB.out _ (HMW.out _ (by go_grown))) ?_) | (with_reducible refine Calls.mono (PC.out _ (HMW.out _ (by go_grown))) ?_)); (rintro e w1 ⟨rfl, hb⟩); have hw := below_go (show Below W.heap.size W _ from by go_grown) hb; have hr2 := (HX.out.to hw).r3; obtain ⟨q1, q2, q3, q4, q5⟩ := KC.out _ hw))
  all_goals
    have XB := hide (HX.out.to hw).1
    go_wp2
    exact bodyPost_ret (v := .agg #[.int .i64 p.x, .int .i64 p.y, .int .i64 q.x, .int .i64 q.y, .int .i64 r.x, .int .i64 r.y]) (by simp [results, Tryz.results91, hr2, go_sem]) rfl ⟨by rw [et.out], by have HX := XB.out; have hz := HX.size; go_grown⟩
end Go.Proofs.YtlnlaopokelggaaGreatDoor

namespace Go.Proofs.YtlnlaopokelggaaGreatDoor
open Go Go.RowKit

theorem own_two {w W : World} {L : List (Nat × TypeId × Array Value)} {a b : Array Value} {s t : TypeId} (h : Own w W L) : Own w ((W.alloc (.cells a s)).alloc (.cells b t)).drew ((W.heap.size, s, a) :: (W.heap.size + 1, t, b) :: L) := by
  have Z := ((h.alloc a s).alloc b t).drew.swap
  rw [World.size_alloc] at Z
  exact Z
def sdK (t : Tri) : Nat → Pnt × Pnt
  | 0 => (t.p, t.q)
  | 1 => (t.q, t.r)
  | _ => (t.r, t.p)
theorem sep_yes {t u : Tri} {k : Nat} (hk : k < 3) (h : rgt (sdK t k).1 (sdK t k).2 u = true) : sepB t u = true := by
  unfold sepB
  obtain rfl | rfl | rfl : k = 0 ∨ k = 1 ∨ k = 2 := by omega
  all_goals simp only [sdK] at h; simp [h]
theorem sep_no {t u : Tri} (h : ∀ k, k < 3 → rgt (sdK t k).1 (sdK t k).2 u = false) : sepB t u = false := by
  unfold sepB
  have h0 := h 0 (by omega)
  have h1 := h 1 (by omega)
  have h2 := h 2 (by omega)
  simp only [sdK] at h0 h1 h2
  rw [h0, h1, h2]; rfl
theorem rgt_ways (a b : Pnt) (u : Tri) : (rgt a b u = false ∧ decide (trn a b u.p ≤ 0) = false) ∨ (rgt a b u = false ∧ decide (trn a b u.p ≤ 0) = true ∧ decide (trn a b u.q ≤ 0) = false) ∨
    (rgt a b u = false ∧ decide (trn a b u.p ≤ 0) = true ∧ decide (trn a b u.q ≤ 0) = true ∧ decide (trn a b u.r ≤ 0) = false) ∨ (rgt a b u = true ∧ decide (trn a b u.p ≤ 0) = true ∧ decide (trn a b u.q ≤ 0) = true ∧ decide (trn a b u.r ≤ 0) = true) := by
  unfold rgt
  cases decide (trn a b u.p ≤ 0) <;> cases decide (trn a b u.q ≤ 0) <;> cases decide (trn a b u.r ≤ 0) <;> simp
set_option maxRecDepth 100000 in
set_option maxHeartbeats 8000000 in
theorem mssep_any (t u : Tri) (w : World) (ht : t.in) (hu : u.in) : Calls Tryz.prog 96 #[.agg t.cells.toArray, .agg u.cells.toArray] w (RetW (.bool (sepB t u)) w) := by
  have X := ((Own.start w).alloc #[.int .i64 t.p.x, .int .i64 t.p.y, .int .i64 t.q.x, .int .i64 t.q.y, .int .i64 t.r.x, .int .i64 t.r.y] 147).alloc #[.int .i64 u.p.x, .int .i64 u.p.y, .int .i64 u.q.x, .int .i64 u.q.y, .int .i64 u.r.x, .int .i64 u.r.y] 147
  simp only [World.size_alloc] at X
  have HX := hide X
  clear X
  have TN := hide (fun W (a b c : Pnt) (ha : a.in) (hb : b.in) (hc : c.in) => msturn_any a b c W ha hb hc)
  unfold RetW at TN
  have HT := hide ht
  have HU := hide hu
  have YES := hide (fun k hk h => sep_yes (t := t) (u := u) (k := k) hk h)
  have NO := hide (fun h => sep_no (t := t) (u := u) h)
  generalize sepB t u = ans at *
  clear ht hu
  go_enter Tryz.func96, Tryz.ntmps96
  go_wp2
  go_loopw [8] (fun v8 wr => ∃ k : Nat, k ≤ 3 ∧ v8 = .int .i64 k ∧ Hid (Own w wr [(w.heap.size + 1, 147, #[.int .i64 u.p.x, .int .i64 u.p.y, .int .i64 u.q.x, .int .i64 u.q.y, .int .i64 u.r.x, .int .i64 u.r.y]), (w.heap.size, 147, #[.int .i64 t.p.x, .int .i64 t.p.y, .int .i64 t.q.x, .int .i64 t.q.y, .int .i64 t.r.x, .int .i64 t.r.y])]) ∧
    Hid (∀ j, j < k → rgt (sdK t j).1 (sdK t j).2 u = false)) (fun v8 _ => 3 - (intOf v8).toNat)
  case atStart => exact ⟨0, by omega, rfl, HX, hide (fun j hj => by omega)⟩
  case round =>
    obtain ⟨k, hk, rfl, HO, HN⟩ := hrel
    by_cases h3 : k = 3
    · subst h3
      have E := hide (NO.out HN.out)
      go_wp2
      go_ret
      exact ⟨ret_bool E.out.symm, HO.out.1⟩
    obtain rfl | rfl | rfl : k = 0 ∨ k = 1 ∨ k = 2 := by omega
    · clear hk h3
      have hr := HO.out.r2
      have HNK := hide (fun (h : rgt t.p t.q u = false) j (hj : j < 0 + 1) => (show rgt (sdK t j).1 (sdK t j).2 u = false by
        by_cases e : j = 0
        · subst e; exact h
        · exact HN.out j (by omega)))
      have YK := hide (fun (h : rgt t.p t.q u = true) => YES.out 0 (by omega) h)
      have IA : Pnt.in t.p := HT.out.1
      have IB : Pnt.in t.q := HT.out.2.1
      have RW := rgt_ways t.p t.q u
      have s1 : IntKind.i64.wrap 1 = 1 := by decide
      have s2 : (1 : Int).tmod 3 = 1 := by decide
      have n1 : ¬ (w.heap.size = w.heap.size + 1) := by omega
      have hz : w.heap.size + 1 < wr.heap.size := hr.1.2.2
      go_upto_region 4 with (fail)
      go_cut [6, 7] (fun v6 v7 wx => ∃ b6 b7 : Nat, v6 = .pointer (some ⟨b6, 0, none⟩) ∧ v7 = .pointer (some ⟨b7, 0, none⟩) ∧ Hid (Own w wx [(b6, 55, #[.int .i64 t.p.x, .int .i64 t.p.y]), (b7, 55, #[.int .i64 t.q.x, .int .i64 t.q.y]), (w.heap.size + 1, 147, #[.int .i64 u.p.x, .int .i64 u.p.y, .int .i64 u.q.x, .int .i64 u.q.y, .int .i64 u.r.x, .int .i64 u.r.y]), (w.heap.size, 147, #[.int .i64 t.p.x, .int .i64 t.p.y, .int .i64 t.q.x, .int .i64 t.q.y, .int .i64 t.r.x, .int .i64 t.r.y])]))
      case first =>
        go_region_held3 (fun w' => w'.cell? ⟨w.heap.size, 0, none⟩ = some (.int .i64 t.p.x) ∧ w'.cell? ⟨w.heap.size, 1, none⟩ = some (.int .i64 t.p.y) ∧ w'.cell? ⟨w.heap.size, 2, none⟩ = some (.int .i64 t.q.x) ∧ w'.cell? ⟨w.heap.size, 3, none⟩ = some (.int .i64 t.q.y)) (go_keep) (fail)
        all_goals
          go_wp2_with fail
          go_meet
          refine ⟨_, _, rfl, rfl, ?_⟩
          first | exact hide (own_two HO.out) | exact hide (own_two HO.out).swap
      case rest =>
        obtain ⟨b6, b7, rfl, rfl, HO⟩ := hcut
        clear hr hz n1 s1 s2
        have hr := HO.out.r4
        rcases RW with ⟨r1, t1⟩ | ⟨r1, t1, t2⟩ | ⟨r1, t1, t2, t3⟩ | ⟨r1, t1, t2, t3⟩
        · have HN2 := hide (HNK.out r1)
          clear r1 HNK YK HN
          go_wp2_with fail
          refine (TN.out _ t.p t.q u.p IA IB HU.out.1).mono ?_
          rintro e w1 ⟨rfl, hb⟩
          replace HO := hide (HO.out.to hb)
          clear hr hb
          have hr := HO.out.r4
          go_wp2
          go_roundw
          case rel => exact ⟨0 + 1, by omega, rfl, hide HO.out.tail.tail, HN2⟩
          case measure => simp [intOf]
        · have HN2 := hide (HNK.out r1)
          clear r1 HNK YK HN
          go_wp2_with fail
          refine (TN.out _ t.p t.q u.p IA IB HU.out.1).mono ?_
          rintro e w1 ⟨rfl, hb⟩
          replace HO := hide (HO.out.to hb)
          clear hr hb
          have hr := HO.out.r4
          go_wp2_with fail
          refine (TN.out _ t.p t.q u.q IA IB HU.out.2.1).mono ?_
          rintro e w1 ⟨rfl, hb⟩
          replace HO := hide (HO.out.to hb)
          clear hr hb
          have hr := HO.out.r4
          go_wp2
          go_roundw
          case rel => exact ⟨0 + 1, by omega, rfl, hide HO.out.tail.tail, HN2⟩
          case measure => simp [intOf]
        · have HN2 := hide (HNK.out r1)
          clear r1 HNK YK HN
          go_wp2_with fail
          refine (TN.out _ t.p t.q u.p IA IB HU.out.1).mono ?_
          rintro e w1 ⟨rfl, hb⟩
          replace HO := hide (HO.out.to hb)
          clear hr hb
          have hr := HO.out.r4
          go_wp2_with fail
          refine (TN.out _ t.p t.q u.q IA IB HU.out.2.1).mono ?_
          rintro e w1 ⟨rfl, hb⟩
          replace HO := hide (HO.out.to hb)
          clear hr hb
          have hr := HO.out.r4
          go_wp2_with fail
          refine (TN.out _ t.p t.q u.r IA IB HU.out.2.2).mono ?_
          rintro e w1 ⟨rfl, hb⟩
          replace HO := hide (HO.out.to hb)
          clear hr hb
          have hr := HO.out.r4
          go_wp2
          go_roundw
          case rel => exact ⟨0 + 1, by omega, rfl, hide HO.out.tail.tail, HN2⟩
          case measure => simp [intOf]
        · have E := hide (YK.out r1)
          clear r1 HNK YK HN
          go_wp2_with fail
          refine (TN.out _ t.p t.q u.p IA IB HU.out.1).mono ?_
          rintro e w1 ⟨rfl, hb⟩
          replace HO := hide (HO.out.to hb)
          clear hr hb
          have hr := HO.out.r4
          go_wp2_with fail
          refine (TN.out _ t.p t.q u.q IA IB HU.out.2.1).mono ?_
          rintro e w1 ⟨rfl, hb⟩
          replace HO := hide (HO.out.to hb)
          clear hr hb
          have hr := HO.out.r4
          go_wp2_with fail
          refine (TN.out _ t.p t.q u.r IA IB HU.out.2.2).mono ?_
          rintro e w1 ⟨rfl, hb⟩
          replace HO := hide (HO.out.to hb)
          clear hr hb
          have hr := HO.out.r4
          go_wp2
          go_ret
          exact ⟨ret_bool E.out.symm, HO.out.1⟩
    · clear hk h3
      have hr := HO.out.r2
      have HNK := hide (fun (h : rgt t.q t.r u = false) j (hj : j < 1 + 1) => (show rgt (sdK t j).1 (sdK t j).2 u = false by
        by_cases e : j = 1
        · subst e; exact h
        · exact HN.out j (by omega)))
      have YK := hide (fun (h : rgt t.q t.r u = true) => YES.out 1 (by omega) h)
      have IA : Pnt.in t.q := HT.out.2.1
      have IB : Pnt.in t.r := HT.out.2.2
      have RW := rgt_ways t.q t.r u
      have s1 : IntKind.i64.wrap 2 = 2 := by decide
      have s2 : (2 : Int).tmod 3 = 2 := by decide
      have n1 : ¬ (w.heap.size = w.heap.size + 1) := by omega
      have hz : w.heap.size + 1 < wr.heap.size := hr.1.2.2
      go_upto_region 4 with (fail)
      go_cut [6, 7] (fun v6 v7 wx => ∃ b6 b7 : Nat, v6 = .pointer (some ⟨b6, 0, none⟩) ∧ v7 = .pointer (some ⟨b7, 0, none⟩) ∧ Hid (Own w wx [(b6, 55, #[.int .i64 t.q.x, .int .i64 t.q.y]), (b7, 55, #[.int .i64 t.r.x, .int .i64 t.r.y]), (w.heap.size + 1, 147, #[.int .i64 u.p.x, .int .i64 u.p.y, .int .i64 u.q.x, .int .i64 u.q.y, .int .i64 u.r.x, .int .i64 u.r.y]), (w.heap.size, 147, #[.int .i64 t.p.x, .int .i64 t.p.y, .int .i64 t.q.x, .int .i64 t.q.y, .int .i64 t.r.x, .int .i64 t.r.y])]))
      case first =>
        go_region_held3 (fun w' => w'.cell? ⟨w.heap.size, 2, none⟩ = some (.int .i64 t.q.x) ∧ w'.cell? ⟨w.heap.size, 3, none⟩ = some (.int .i64 t.q.y) ∧ w'.cell? ⟨w.heap.size, 4, none⟩ = some (.int .i64 t.r.x) ∧ w'.cell? ⟨w.heap.size, 5, none⟩ = some (.int .i64 t.r.y)) (go_keep) (fail)
        all_goals
          go_wp2_with fail
          go_meet
          refine ⟨_, _, rfl, rfl, ?_⟩
          first | exact hide (own_two HO.out) | exact hide (own_two HO.out).swap
      case rest =>
        obtain ⟨b6, b7, rfl, rfl, HO⟩ := hcut
        clear hr hz n1 s1 s2
        have hr := HO.out.r4
        rcases RW with ⟨r1, t1⟩ | ⟨r1, t1, t2⟩ | ⟨r1, t1, t2, t3⟩ | ⟨r1, t1, t2, t3⟩
        · have HN2 := hide (HNK.out r1)
          clear r1 HNK YK HN
          go_wp2_with fail
          refine (TN.out _ t.q t.r u.p IA IB HU.out.1).mono ?_
          rintro e w1 ⟨rfl, hb⟩
          replace HO := hide (HO.out.to hb)
          clear hr hb
          have hr := HO.out.r4
          go_wp2
          go_roundw
          case rel => exact ⟨1 + 1, by omega, rfl, hide HO.out.tail.tail, HN2⟩
          case measure => simp [intOf]
        · have HN2 := hide (HNK.out r1)
          clear r1 HNK YK HN
          go_wp2_with fail
          refine (TN.out _ t.q t.r u.p IA IB HU.out.1).mono ?_
          rintro e w1 ⟨rfl, hb⟩
          replace HO := hide (HO.out.to hb)
          clear hr hb
          have hr := HO.out.r4
          go_wp2_with fail
          refine (TN.out _ t.q t.r u.q IA IB HU.out.2.1).mono ?_
          rintro e w1 ⟨rfl, hb⟩
          replace HO := hide (HO.out.to hb)
          clear hr hb
          have hr := HO.out.r4
          go_wp2
          go_roundw
          case rel => exact ⟨1 + 1, by omega, rfl, hide HO.out.tail.tail, HN2⟩
          case measure => simp [intOf]
        · have HN2 := hide (HNK.out r1)
          clear r1 HNK YK HN
          go_wp2_with fail
          refine (TN.out _ t.q t.r u.p IA IB HU.out.1).mono ?_
          rintro e w1 ⟨rfl, hb⟩
          replace HO := hide (HO.out.to hb)
          clear hr hb
          have hr := HO.out.r4
          go_wp2_with fail
          refine (TN.out _ t.q t.r u.q IA IB HU.out.2.1).mono ?_
          rintro e w1 ⟨rfl, hb⟩
          replace HO := hide (HO.out.to hb)
          clear hr hb
          have hr := HO.out.r4
          go_wp2_with fail
          refine (TN.out _ t.q t.r u.r IA IB HU.out.2.2).mono ?_
          rintro e w1 ⟨rfl, hb⟩
          replace HO := hide (HO.out.to hb)
          clear hr hb
          have hr := HO.out.r4
          go_wp2
          go_roundw
          case rel => exact ⟨1 + 1, by omega, rfl, hide HO.out.tail.tail, HN2⟩
          case measure => simp [intOf]
        · have E := hide (YK.out r1)
          clear r1 HNK YK HN
          go_wp2_with fail
          refine (TN.out _ t.q t.r u.p IA IB HU.out.1).mono ?_
          rintro e w1 ⟨rfl, hb⟩
          replace HO := hide (HO.out.to hb)
          clear hr hb
          have hr := HO.out.r4
          go_wp2_with fail
          refine (TN.out _ t.q t.r u.q IA IB HU.out.2.1).mono ?_
          rintro e w1 ⟨rfl, hb⟩
          replace HO := hide (HO.out.to hb)
          clear hr hb
          have hr := HO.out.r4
          go_wp2_with fail
          refine (TN.out _ t.q t.r u.r IA IB HU.out.2.2).mono ?_
          rintro e w1 ⟨rfl, hb⟩
          replace HO := hide (HO.out.to hb)
          clear hr hb
          have hr := HO.out.r4
          go_wp2
          go_ret
          exact ⟨ret_bool E.out.symm, HO.out.1⟩
    · clear hk h3
      have hr := HO.out.r2
      have HNK := hide (fun (h : rgt t.r t.p u = false) j (hj : j < 2 + 1) => (show rgt (sdK t j).1 (sdK t j).2 u = false by
        by_cases e : j = 2
        · subst e; exact h
        · exact HN.out j (by omega)))
      have YK := hide (fun (h : rgt t.r t.p u = true) => YES.out 2 (by omega) h)
      have IA : Pnt.in t.r := HT.out.2.2
      have IB : Pnt.in t.p := HT.out.1
      have RW := rgt_ways t.r t.p u
      have s1 : IntKind.i64.wrap 3 = 3 := by decide
      have s2 : (3 : Int).tmod 3 = 0 := by decide
      have n1 : ¬ (w.heap.size = w.heap.size + 1) := by omega
      have hz : w.heap.size + 1 < wr.heap.size := hr.1.2.2
      go_upto_region 4 with (fail)
      go_cut [6, 7] (fun v6 v7 wx => ∃ b6 b7 : Nat, v6 = .pointer (some ⟨b6, 0, none⟩) ∧ v7 = .pointer (some ⟨b7, 0, none⟩) ∧ Hid (Own w wx [(b6, 55, #[.int .i64 t.r.x, .int .i64 t.r.y]), (b7, 55, #[.int .i64 t.p.x, .int .i64 t.p.y]), (w.heap.size + 1, 147, #[.int .i64 u.p.x, .int .i64 u.p.y, .int .i64 u.q.x, .int .i64 u.q.y, .int .i64 u.r.x, .int .i64 u.r.y]), (w.heap.size, 147, #[.int .i64 t.p.x, .int .i64 t.p.y, .int .i64 t.q.x, .int .i64 t.q.y, .int .i64 t.r.x, .int .i64 t.r.y])]))
      case first =>
        go_region_held3 (fun w' => w'.cell? ⟨w.heap.size, 0, none⟩ = some (.int .i64 t.p.x) ∧ w'.cell? ⟨w.heap.size, 1, none⟩ = some (.int .i64 t.p.y) ∧ w'.cell? ⟨w.heap.size, 4, none⟩ = some (.int .i64 t.r.x) ∧ w'.cell? ⟨w.heap.size, 5, none⟩ = some (.int .i64 t.r.y)) (go_keep) (fail)
        all_goals
          go_wp2_with fail
          go_meet
          refine ⟨_, _, rfl, rfl, ?_⟩
          first | exact hide (own_two HO.out) | exact hide (own_two HO.out).swap
      case rest =>
        obtain ⟨b6, b7, rfl, rfl, HO⟩ := hcut
        clear hr hz n1 s1 s2
        have hr := HO.out.r4
        rcases RW with ⟨r1, t1⟩ | ⟨r1, t1, t2⟩ | ⟨r1, t1, t2, t3⟩ | ⟨r1, t1, t2, t3⟩
        · have HN2 := hide (HNK.out r1)
          clear r1 HNK YK HN
          go_wp2_with fail
          refine (TN.out _ t.r t.p u.p IA IB HU.out.1).mono ?_
          rintro e w1 ⟨rfl, hb⟩
          replace HO := hide (HO.out.to hb)
          clear hr hb
          have hr := HO.out.r4
          go_wp2
          go_roundw
          case rel => exact ⟨2 + 1, by omega, rfl, hide HO.out.tail.tail, HN2⟩
          case measure => simp [intOf]
        · have HN2 := hide (HNK.out r1)
          clear r1 HNK YK HN
          go_wp2_with fail
          refine (TN.out _ t.r t.p u.p IA IB HU.out.1).mono ?_
          rintro e w1 ⟨rfl, hb⟩
          replace HO := hide (HO.out.to hb)
          clear hr hb
          have hr := HO.out.r4
          go_wp2_with fail
          refine (TN.out _ t.r t.p u.q IA IB HU.out.2.1).mono ?_
          rintro e w1 ⟨rfl, hb⟩
          replace HO := hide (HO.out.to hb)
          clear hr hb
          have hr := HO.out.r4
          go_wp2
          go_roundw
          case rel => exact ⟨2 + 1, by omega, rfl, hide HO.out.tail.tail, HN2⟩
          case measure => simp [intOf]
        · have HN2 := hide (HNK.out r1)
          clear r1 HNK YK HN
          go_wp2_with fail
          refine (TN.out _ t.r t.p u.p IA IB HU.out.1).mono ?_
          rintro e w1 ⟨rfl, hb⟩
          replace HO := hide (HO.out.to hb)
          clear hr hb
          have hr := HO.out.r4
          go_wp2_with fail
          refine (TN.out _ t.r t.p u.q IA IB HU.out.2.1).mono ?_
          rintro e w1 ⟨rfl, hb⟩
          replace HO := hide (HO.out.to hb)
          clear hr hb
          have hr := HO.out.r4
          go_wp2_with fail
          refine (TN.out _ t.r t.p u.r IA IB HU.out.2.2).mono ?_
          rintro e w1 ⟨rfl, hb⟩
          replace HO := hide (HO.out.to hb)
          clear hr hb
          have hr := HO.out.r4
          go_wp2
          go_roundw
          case rel => exact ⟨2 + 1, by omega, rfl, hide HO.out.tail.tail, HN2⟩
          case measure => simp [intOf]
        · have E := hide (YK.out r1)
          clear r1 HNK YK HN
          go_wp2_with fail
          refine (TN.out _ t.r t.p u.p IA IB HU.out.1).mono ?_
          rintro e w1 ⟨rfl, hb⟩
          replace HO := hide (HO.out.to hb)
          clear hr hb
          have hr := HO.out.r4
          go_wp2_with fail
          refine (TN.out _ t.r t.p u.q IA IB HU.out.2.1).mono ?_
          rintro e w1 ⟨rfl, hb⟩
          replace HO := hide (HO.out.to hb)
          clear hr hb
          have hr := HO.out.r4
          go_wp2_with fail
          refine (TN.out _ t.r t.p u.r IA IB HU.out.2.2).mono ?_
          rintro e w1 ⟨rfl, hb⟩
          replace HO := hide (HO.out.to hb)
          clear hr hb
          have hr := HO.out.r4
          go_wp2
          go_ret
          exact ⟨ret_bool E.out.symm, HO.out.1⟩
end Go.Proofs.YtlnlaopokelggaaGreatDoor

namespace Go.Proofs.YtlnlaopokelggaaGreatDoor
open Go.RowKit

def idxP (p : Int → Bool) (l : List Int) : Int := match l.findIdx? p with | some i => (i : Int) | none => -1
theorem idxP_no {p : Int → Bool} {l : List Int} (h : ∀ i (hi : i < l.length), p l[i] = false) : idxP p l = -1 := by
  have : l.findIdx? p = none := by
    rw [List.findIdx?_eq_none_iff]
    intro x hx
    obtain ⟨i, hi, rfl⟩ := List.mem_iff_getElem.1 hx
    exact h i hi
  simp [idxP, this]
theorem idxP_yes {p : Int → Bool} {l : List Int} {k : Nat} (hk : k < l.length) (h : ∀ i (hi : i < l.length), i < k → p l[i] = false) (hy : p l[k] = true) : idxP p l = k := by
  have : l.findIdx? p = some k := by
    rw [List.findIdx?_eq_some_iff_getElem]
    exact ⟨hk, hy, fun j hj => by rw [h j (by omega) hj]; simp⟩
  simp [idxP, this]
theorem any_idx (p : Int → Bool) (l : List Int) : l.any p = decide (0 ≤ idxP p l) := by
  unfold idxP
  cases h : l.findIdx? p with
  | none =>
    rw [List.findIdx?_eq_none_iff] at h
    rw [Bool.eq_iff_iff]
    simp only [List.any_eq_true, decide_eq_true_eq]
    constructor
    · rintro ⟨x, hx, hp⟩
      rw [h x hx] at hp
      cases hp
    · intro h'
      omega
  | some i =>
    rw [List.findIdx?_eq_some_iff_getElem] at h
    obtain ⟨hi, hp, _⟩ := h
    rw [Bool.eq_iff_iff]
    simp only [List.any_eq_true, decide_eq_true_eq]
    exact ⟨fun _ => by omega, fun _ => ⟨l[i], List.getElem_mem hi, hp⟩⟩

set_option maxHeartbeats 1000000 in
theorem idxfI_any (f : Nat) (p : Int → Bool) (hf : ∀ (d : Int) (w : World), Calls Tryz.prog f #[.int .i64 d] w fun e w' => e = .returned (.bool (p d)) ∧ w = w') (hc : ∀ (d : Int) (w : World), (callFunc f #[.int .i64 d]).run Tryz.prog w = .ok (.enter f #[.int .i64 d]) w) (l : List Int) (A : Option Addr) (cap : Nat) (w : World) (hl : IntSl w A l) :
    Calls Tryz.prog 113 #[.slice A l.length cap, .func (.func f) #[] #[]] w fun e w' => e = .returned (.int .i64 (idxP p l)) ∧ w = w' := by
  have hlen : l.length ≤ 9223372036854775807 := by have := hl.1.1; omega
  have H := hide hl
  have F := hide hf
  clear hl hf
  go_enter Tryz.func113, Tryz.ntmps113
  go_wp2
  go_loop [8] (fun v8 => ∃ k : Nat, k ≤ l.length ∧ v8 = .int .i64 k ∧ Hid (∀ i (hi : i < l.length), i < k → p l[i] = false)) (fun v8 => l.length - (intOf v8).toNat)
  case atStart => exact ⟨0, Nat.zero_le _, rfl, hide (fun _ _ h => by omega)⟩
  case round =>
    obtain ⟨k, hk, rfl, hno⟩ := hrel
    by_cases hlt : k < l.length
    · obtain ⟨b, off, rfl, hbl, hat⟩ := H.out.2 (by omega)
      have c0 := hat k hlt
      clear hat
      rcases Bool.eq_false_or_eq_true (p l[k]) with hs | hs
      · go_wp2_with fail
        refine (F.out l[k] _).mono ?_
        rintro e w' ⟨rfl, rfl⟩
        go_wp2
        go_ret
        exact ⟨ret_int (idxP_yes hlt (fun i hi hik => hno.out i hi hik) hs).symm, rfl⟩
      · go_wp2_with fail
        refine (F.out l[k] _).mono ?_
        rintro e w' ⟨rfl, rfl⟩
        go_wp2
        go_round
        case rel =>
          refine ⟨k + 1, by omega, by go_num, hide fun i hi hik => ?_⟩
          by_cases e : i = k
          · subst e; exact hs
          · exact hno.out i hi (by omega)
        case measure => simp [intOf]; omega
    · go_wp2
      go_ret
      exact ⟨ret_int (idxP_no fun i hi => hno.out i hi (by omega)).symm, rfl⟩
set_option maxHeartbeats 1000000 in
theorem contI_any (f : Nat) (p : Int → Bool) (hf : ∀ (d : Int) (w : World), Calls Tryz.prog f #[.int .i64 d] w fun e w' => e = .returned (.bool (p d)) ∧ w = w') (hc : ∀ (d : Int) (w : World), (callFunc f #[.int .i64 d]).run Tryz.prog w = .ok (.enter f #[.int .i64 d]) w) (l : List Int) (A : Option Addr) (cap : Nat) (w : World) (hl : IntSl w A l) :
    Calls Tryz.prog 89 #[.slice A l.length cap, .func (.func f) #[] #[]] w fun e w' => e = .returned (.bool (l.any p)) ∧ w = w' := by
  have F := hide hf
  have H := hide (any_idx p l)
  clear hf
  have HL := hide hl
  clear hl
  go_enter Tryz.func89, Tryz.ntmps89
  go_wp2_with fail
  refine (idxfI_any f p F.out hc l A cap _ HL.out).mono ?_
  rintro e w' ⟨rfl, rfl⟩
  go_wp2
  go_ret
  exact ⟨ret_bool H.out.symm, rfl⟩
theorem below_drewN {B : Nat} {a w : World} (h : Below B a w) (n : Nat) : Below B a (w.drewN n) := ⟨h.os, h.tape, h.output, h.size, h.block⟩
end Go.Proofs.YtlnlaopokelggaaGreatDoor
