/- Parts of one proof, joined: Maps whose keys are points or pairs of integers and whose elements are bools, that the call made: look-up and store. The program's triangle, separates, and the two functions that Check hands on: what each returns; nothing that was there is turned. The program's separates: whether a side of a triangle has another triangle on its right; nothing that was there is turned (printed by gen_sep.py). slices.IndexFunc and slices.ContainsFunc at integers, with a function that captures nothing and turns nothing. The functions that Check hands to slices.ContainsFunc, and these calls: what each returns; nothing that was there is turned. The function that Check hands to slices.ContainsFunc at corners, and this call: what each returns; nothing is turned. Rows of a block written cell by cell. -/
import Derived.Test.YtdcdfjinbieblaaGreatDoorPkCostsPipes2
import Derived.Test.YtdcdfjinbieblaaGreatDoorPkCostsPipes7
import Derived.Maps.OwnOps
import Derived.DeepKeys5
import Derived.WideKeyPair
import Derived.Test.YtdcdfjinbieblaaGreatDoorPkCostsPipes6
import Derived.Deep.DeepCutAuto
import Derived.Deep.QuietTactic
import Derived.BigQuiet
import Derived.Shelf.Abstract
namespace Go.Proofs.YtdcdfjinbieblaaGreatDoor
open Go Go.RowKit Go.WideMaps

theorem wf_i64 {n : Int} (h : i64 n) : (Lit.int .i64 n).wf = true := by
  unfold i64 at h
  simp [Lit.wf, IntKind.min, IntKind.max, IntKind.signed, IntKind.bits]
  omega
theorem pt_keyed : Maps.Keyed Tryz.prog 68 := Maps.Keyed.of_law (deep_law_gate laidOut (of_decide_eq_true (by kernel_rfl)) (of_decide_eq_true (by kernel_rfl)) (by kernel_rfl) (by kernel_rfl))
theorem sd_keyed : Maps.Keyed Tryz.prog 173 := Maps.Keyed.of_law (deep_law_gate laidOut (of_decide_eq_true (by kernel_rfl)) (of_decide_eq_true (by kernel_rfl)) (by kernel_rfl) (by kernel_rfl))
theorem types_pos : ∃ m, Tryz.prog.types.size = m + 1 := Nat.exists_eq_succ_of_ne_zero (fun e => by
  have : (Tryz.prog.types.size == 0) = false := by kernel_rfl
  rw [e] at this
  cases this)
theorem int_key (d : Nat) {n : Int} (h : i64 n) : Tryz.prog.keyLits (d + 1) 3 [.int .i64 n] = some [.int .i64 n] := by
  unfold Program.keyLits
  rw [Tryz.underlying3]
  simp [wf_i64 h]
theorem pt_key (p : Pnt) (hx : i64 p.x) (hy : i64 p.y) : keyOf Tryz.prog 68 p.val = some (.string (keyBytes [.int .i64 p.x, .int .i64 p.y])) := by
  have hkt : Tryz.prog.keyType 68 = true := by kernel_rfl
  have hc : Tryz.prog.cellsOf 68 = 2 := by kernel_rfl
  have hi : Tryz.prog.cellsOf 3 = 1 := by kernel_rfl
  obtain ⟨m, hm⟩ := types_pos
  unfold keyOf
  simp only [Tryz.underlying68]
  rw [if_pos (by simp [hkt, Value.formed, Tryz.underlying68, hc]), hm]
  obtain ⟨m', rfl⟩ : ∃ m', m = m' + 1 := Nat.exists_eq_succ_of_ne_zero (fun e => by
    have : (Tryz.prog.types.size == 1) = false := by kernel_rfl
    rw [hm, e] at this
    cases this)
  unfold Program.keyLits
  simp only [Tryz.underlying68, Value.cells]
  rw [if_pos (by rw [hc]; exact ⟨rfl, by kernel_rfl⟩)]
  have e1 := int_key (m' + 1) hx
  have e2 := int_key (m' + 1) hy
  simp [hi, e1, e2]
theorem sd_key (a b : Int) (hx : i64 a) (hy : i64 b) : keyOf Tryz.prog 173 (.agg #[.int .i64 a, .int .i64 b]) = some (.string (keyBytes [.int .i64 a, .int .i64 b])) :=
  keyOf_pair (e := 3) ⟨Tryz.underlying173, by kernel_rfl, by kernel_rfl, by kernel_rfl⟩ Tryz.underlying3 types_pos (wf_i64 hx) (wf_i64 hy)
/-- an element that reads as a bool is that bool -/
theorem plainBool_inv {e : TypeId} (he : Tryz.prog.underlying e = some .bool) {v : Value} {z : DataW Unit × List MemPlace} (h : plainElem Tryz.prog e v = some z) : ∃ b, v = .bool b ∧ z = (.lit (.bool b), []) := by
  unfold plainElem at h
  rw [he] at h
  cases v <;> simp at h
  exact ⟨_, rfl, h.symm⟩
abbrev MapB (W : World) (k b n : Nat) (D : DataW Unit) : Prop := W.ownsMap Tryz.prog k (plainElem (H := Unit) Tryz.prog 4) b n D
theorem zero_bool (W : World) : (zeroValue 4).run Tryz.prog W = .ok (.bool false) W := Tryz.zeroValue4 W
theorem MapB.look {W : World} {k t b n : Nat} {D : DataW Unit} (h : MapB W k b n D) (K : Maps.Keyed Tryz.prog k) (ht : Tryz.prog.underlying t = some (.map k 4)) {key : Value} {kl : Lit} (hkey : keyOf Tryz.prog k key = some kl) :
    ∃ c : Bool, (Instr.lookup t (.map (some b)) key false).run Tryz.prog W = .ok (.bool c) W ∧ D.atKey kl (.lit (.bool false)) = .lit (.bool c) := by
  obtain ⟨v, ps, hrun, hv⟩ := World.ownsMap.lookup h K ht (zero_bool W) (Go.plainElem_bool Tryz.underlying4 false) hkey
  obtain ⟨c, rfl, hc⟩ := plainBool_inv Tryz.underlying4 hv
  simp only [Prod.mk.injEq] at hc
  exact ⟨c, hrun, hc.1⟩
/-- the map says yes at just these keys -/
def Says (D : DataW Unit) (key : Lit → Prop) : Prop := Maps.IsMap D ∧ ∀ l, WideAt.IsKeyLit l → ∃ c : Bool, D.atKey l (.lit (.bool false)) = .lit (.bool c) ∧ (c = true ↔ key l)
theorem Says.empty : Says (.map []) (fun _ => False) := ⟨⟨[], rfl⟩, fun l _ => ⟨false, rfl, by simp⟩⟩
theorem Says.put {D : DataW Unit} {key : Lit → Prop} (h : Says D key) {k : Lit} (hk : WideAt.IsKeyLit k) : Says (D.put k (.lit (.bool true))) (fun l => l = k ∨ key l) := by
  refine ⟨h.1.put k _, fun l hl => ?_⟩
  by_cases e : l = k
  · subst e
    exact ⟨true, Maps.atKey_put_same h.1 hl _ _, by simp⟩
  · obtain ⟨c, h1, h2⟩ := h.2 l hl
    exact ⟨c, (Maps.atKey_put_other e _ _).trans h1, by simp [e, h2]⟩
theorem MapB.says {W : World} {k t b n : Nat} {D : DataW Unit} {key : Lit → Prop} (h : MapB W k b n D) (K : Maps.Keyed Tryz.prog k) (ht : Tryz.prog.underlying t = some (.map k 4)) (hs : Says D key) {kv : Value} {kl : Lit} (hkey : keyOf Tryz.prog k kv = some kl) :
    ∃ c : Bool, (Instr.lookup t (.map (some b)) kv false).run Tryz.prog W = .ok (.bool c) W ∧ (c = true ↔ key kl) := by
  obtain ⟨c, h1, h2⟩ := h.look K ht hkey
  obtain ⟨c', h3, h4⟩ := hs.2 kl (K.key hkey)
  rw [h3] at h2
  injection h2 with h2
  injection h2 with h2
  subst h2
  exact ⟨c', h1, h4⟩
end Go.Proofs.YtdcdfjinbieblaaGreatDoor

namespace Go.Proofs.YtdcdfjinbieblaaGreatDoor
open Go Go.RowKit

theorem below_go {a w w' : World} (h : Below a.heap.size a w) (k : Below w.heap.size w w') : Below a.heap.size a w' := below_via h h.size k
set_option maxRecDepth 100000 in
set_option maxHeartbeats 4000000 in
theorem mstri_any (m : Msh) (a : MshA) (f : Fce) (w : World) (hm : MshSl w m a) (ha : 0 ≤ f.a ∧ f.a < m.ss.length) (hb : 0 ≤ f.b ∧ f.b < m.ss.length) (hc : 0 ≤ f.c ∧ f.c < m.ss.length) :
    Calls Tryz.prog 120 #[m.val a, f.val] w (RetW (.agg (triA m.ss f).cells.toArray) w) := by
  have X := (((Own.start w).alloc (m.cells a) 65).alloc #[.int .i64 f.a, .int .i64 f.b, .int .i64 f.c, .int .i64 f.k] 62).alloc #[.int .i64 0, .int .i64 0, .int .i64 0, .int .i64 0, .int .i64 0, .int .i64 0] 170
  simp only [World.size_alloc] at X
  have HM := hide hm
  obtain ⟨A1, c1, A2, c2⟩ := a
  have PA := hide (fun W h => mspoint_any m ⟨A1, c1, A2, c2⟩ f.a W h ha.1 ha.2)
  have PB := hide (fun W h => mspoint_any m ⟨A1, c1, A2, c2⟩ f.b W h hb.1 hb.2)
  have PC := hide (fun W h => mspoint_any m ⟨A1, c1, A2, c2⟩ f.c W h hc.1 hc.2)
  have et : Hid ((triA m.ss f).cells = [.int .i64 (spA m.ss f.a).pt.x, .int .i64 (spA m.ss f.a).pt.y, .int .i64 (spA m.ss f.b).pt.x, .int .i64 (spA m.ss f.b).pt.y, .int .i64 (spA m.ss f.c).pt.x, .int .i64 (spA m.ss f.c).pt.y]) := hide rfl
  generalize (triA m.ss f).cells = tc at *
  generalize (spA m.ss f.a).pt = p at *
  generalize (spA m.ss f.b).pt = q at *
  generalize (spA m.ss f.c).pt = r at *
  unfold RetW at PA PB PC
  clear hm ha hb hc
  go_enter Tryz.func120, Tryz.ntmps120
  go_wp2
  generalize (((w.alloc (.cells #[.slice A1 m.ss.length c1, .slice A2 m.fs.length c2] 65)).alloc (.cells #[.int .i64 f.a, .int .i64 f.b, .int .i64 f.c, .int .i64 f.k] 62)).alloc (.cells #[.int .i64 0, .int .i64 0, .int .i64 0, .int .i64 0, .int .i64 0, .int .i64 0] 170)) = W at *
  have hr := X.r3
  have HX := hide X
  have HMW := hide (fun W' (h : Below W.heap.size W W') => HM.out.below (below_via HX.out.1 HX.out.1.size h))
  have KC := hide (fun W' (h : Below W.heap.size W W') => And.intro ((h.cell (p := ⟨w.heap.size, 0, none⟩) hr.2.2.2.2).trans (hr.2.2.1 0)) (And.intro ((h.cell (p := ⟨w.heap.size, 1, none⟩) hr.2.2.2.2).trans (hr.2.2.1 1))
    (And.intro ((h.cell (p := ⟨w.heap.size + 1, 0, none⟩) hr.2.1.2.2).trans (hr.2.1.1 0)) (And.intro ((h.cell (p := ⟨w.heap.size + 1, 1, none⟩) hr.2.1.2.2).trans (hr.2.1.1 1)) ((h.cell (p := ⟨w.heap.size + 1, 2, none⟩) hr.2.1.2.2).trans (hr.2.1.1 2))))))
  clear X
  have n1 : ¬ (w.heap.size = w.heap.size + 1 + 1) := by omega
  have n2 : ¬ (w.heap.size + 1 + 1 = w.heap.size) := by omega
  go_region_held3 (fun w' => w'.cell? ⟨w.heap.size, 0, none⟩ = some (.slice A1 m.ss.length c1) ∧ w'.cell? ⟨w.heap.size, 1, none⟩ = some (.slice A2 m.fs.length c2) ∧ w'.cell? ⟨w.heap.size + 1, 0, none⟩ = some (.int .i64 f.a) ∧ w'.cell? ⟨w.heap.size + 1, 1, none⟩ = some (.int .i64 f.b) ∧ w'.cell? ⟨w.heap.size + 1, 2, none⟩ = some (.int .i64 f.c)) (go_keep)
    (first
      | (go_at_call 116; (first | (with_reducible refine Calls.mono (PA.out _ (HMW.out _ (by go_grown))) ?_) | (with_reducible refine Calls.mono (PB.out _ (HMW.out _ (by go_grown))) ?_) | (with_reducible refine Calls.mono (PC.out _ (HMW.out _ (by go_grown))) ?_)); (rintro e w1 ⟨rfl, hb⟩); have hw := below_go (show Below W.heap.size W _ from by go_grown) hb; have hr2 := (HX.out.to hw).r3; obtain ⟨q1, q2, q3, q4, q5⟩ := KC.out _ hw))
  all_goals
    have XB := hide (HX.out.to hw).1
    go_wp2
    exact bodyPost_ret (v := .agg #[.int .i64 p.x, .int .i64 p.y, .int .i64 q.x, .int .i64 q.y, .int .i64 r.x, .int .i64 r.y]) (by simp [results, Tryz.results120, hr2, go_sem]) rfl ⟨by rw [et.out], by have HX := XB.out; have hz := HX.size; go_grown⟩
end Go.Proofs.YtdcdfjinbieblaaGreatDoor

namespace Go.Proofs.YtdcdfjinbieblaaGreatDoor
open Go Go.RowKit

theorem own_two {w W : World} {L : List (Nat × TypeId × Array Value)} {a b : Array Value} {s t : TypeId} (h : Own w W L) : Own w ((W.alloc (.cells a s)).alloc (.cells b t)).drew ((W.heap.size, s, a) :: (W.heap.size + 1, t, b) :: L) := by
  have Z := ((h.alloc a s).alloc b t).drew.swap
  rw [World.size_alloc] at Z
  exact Z
def sdK (t : Tri) : Nat → Pnt × Pnt
  | 0 => (t.p, t.q)
  | 1 => (t.q, t.r)
  | _ => (t.r, t.p)
theorem sep_yes {t u : Tri} {k : Nat} (hk : k < 3) (h : rgt (sdK t k).1 (sdK t k).2 u = true) : sepB t u = true := by
  unfold sepB
  obtain rfl | rfl | rfl : k = 0 ∨ k = 1 ∨ k = 2 := by omega
  all_goals simp only [sdK] at h; simp [h]
theorem sep_no {t u : Tri} (h : ∀ k, k < 3 → rgt (sdK t k).1 (sdK t k).2 u = false) : sepB t u = false := by
  unfold sepB
  have h0 := h 0 (by omega)
  have h1 := h 1 (by omega)
  have h2 := h 2 (by omega)
  simp only [sdK] at h0 h1 h2
  rw [h0, h1, h2]; rfl
theorem rgt_ways (a b : Pnt) (u : Tri) : (rgt a b u = false ∧ decide (trn a b u.p ≤ 0) = false) ∨ (rgt a b u = false ∧ decide (trn a b u.p ≤ 0) = true ∧ decide (trn a b u.q ≤ 0) = false) ∨
    (rgt a b u = false ∧ decide (trn a b u.p ≤ 0) = true ∧ decide (trn a b u.q ≤ 0) = true ∧ decide (trn a b u.r ≤ 0) = false) ∨ (rgt a b u = true ∧ decide (trn a b u.p ≤ 0) = true ∧ decide (trn a b u.q ≤ 0) = true ∧ decide (trn a b u.r ≤ 0) = true) := by
  unfold rgt
  cases decide (trn a b u.p ≤ 0) <;> cases decide (trn a b u.q ≤ 0) <;> cases decide (trn a b u.r ≤ 0) <;> simp
set_option maxRecDepth 100000 in
set_option maxHeartbeats 8000000 in
theorem mssep_any (t u : Tri) (w : World) (ht : t.in) (hu : u.in) : Calls Tryz.prog 125 #[.agg t.cells.toArray, .agg u.cells.toArray] w (RetW (.bool (sepB t u)) w) := by
  have X := ((Own.start w).alloc #[.int .i64 t.p.x, .int .i64 t.p.y, .int .i64 t.q.x, .int .i64 t.q.y, .int .i64 t.r.x, .int .i64 t.r.y] 170).alloc #[.int .i64 u.p.x, .int .i64 u.p.y, .int .i64 u.q.x, .int .i64 u.q.y, .int .i64 u.r.x, .int .i64 u.r.y] 170
  simp only [World.size_alloc] at X
  have HX := hide X
  clear X
  have TN := hide (fun W (a b c : Pnt) (ha : a.in) (hb : b.in) (hc : c.in) => msturn_any a b c W ha hb hc)
  unfold RetW at TN
  have HT := hide ht
  have HU := hide hu
  have YES := hide (fun k hk h => sep_yes (t := t) (u := u) (k := k) hk h)
  have NO := hide (fun h => sep_no (t := t) (u := u) h)
  generalize sepB t u = ans at *
  clear ht hu
  go_enter Tryz.func125, Tryz.ntmps125
  go_wp2
  go_loopw [8] (fun v8 wr => ∃ k : Nat, k ≤ 3 ∧ v8 = .int .i64 k ∧ Hid (Own w wr [(w.heap.size + 1, 170, #[.int .i64 u.p.x, .int .i64 u.p.y, .int .i64 u.q.x, .int .i64 u.q.y, .int .i64 u.r.x, .int .i64 u.r.y]), (w.heap.size, 170, #[.int .i64 t.p.x, .int .i64 t.p.y, .int .i64 t.q.x, .int .i64 t.q.y, .int .i64 t.r.x, .int .i64 t.r.y])]) ∧
    Hid (∀ j, j < k → rgt (sdK t j).1 (sdK t j).2 u = false)) (fun v8 _ => 3 - (intOf v8).toNat)
  case atStart => exact ⟨0, by omega, rfl, HX, hide (fun j hj => by omega)⟩
  case round =>
    obtain ⟨k, hk, rfl, HO, HN⟩ := hrel
    by_cases h3 : k = 3
    · subst h3
      have E := hide (NO.out HN.out)
      go_wp2
      go_ret
      exact ⟨ret_bool E.out.symm, HO.out.1⟩
    obtain rfl | rfl | rfl : k = 0 ∨ k = 1 ∨ k = 2 := by omega
    · clear hk h3
      have hr := HO.out.r2
      have HNK := hide (fun (h : rgt t.p t.q u = false) j (hj : j < 0 + 1) => (show rgt (sdK t j).1 (sdK t j).2 u = false by
        by_cases e : j = 0
        · subst e; exact h
        · exact HN.out j (by omega)))
      have YK := hide (fun (h : rgt t.p t.q u = true) => YES.out 0 (by omega) h)
      have IA : Pnt.in t.p := HT.out.1
      have IB : Pnt.in t.q := HT.out.2.1
      have RW := rgt_ways t.p t.q u
      have s1 : IntKind.i64.wrap 1 = 1 := by decide
      have s2 : (1 : Int).tmod 3 = 1 := by decide
      have n1 : ¬ (w.heap.size = w.heap.size + 1) := by omega
      have hz : w.heap.size + 1 < wr.heap.size := hr.1.2.2
      go_upto_region 4 with (fail)
      go_cut [6, 7] (fun v6 v7 wx => ∃ b6 b7 : Nat, v6 = .pointer (some ⟨b6, 0, none⟩) ∧ v7 = .pointer (some ⟨b7, 0, none⟩) ∧ Hid (Own w wx [(b6, 68, #[.int .i64 t.p.x, .int .i64 t.p.y]), (b7, 68, #[.int .i64 t.q.x, .int .i64 t.q.y]), (w.heap.size + 1, 170, #[.int .i64 u.p.x, .int .i64 u.p.y, .int .i64 u.q.x, .int .i64 u.q.y, .int .i64 u.r.x, .int .i64 u.r.y]), (w.heap.size, 170, #[.int .i64 t.p.x, .int .i64 t.p.y, .int .i64 t.q.x, .int .i64 t.q.y, .int .i64 t.r.x, .int .i64 t.r.y])]))
      case first =>
        go_region_held3 (fun w' => w'.cell? ⟨w.heap.size, 0, none⟩ = some (.int .i64 t.p.x) ∧ w'.cell? ⟨w.heap.size, 1, none⟩ = some (.int .i64 t.p.y) ∧ w'.cell? ⟨w.heap.size, 2, none⟩ = some (.int .i64 t.q.x) ∧ w'.cell? ⟨w.heap.size, 3, none⟩ = some (.int .i64 t.q.y)) (go_keep) (fail)
        all_goals
          go_wp2_with fail
          go_meet
          refine ⟨_, _, rfl, rfl, ?_⟩
          first | exact hide (own_two HO.out) | exact hide (own_two HO.out).swap
      case rest =>
        obtain ⟨b6, b7, rfl, rfl, HO⟩ := hcut
        clear hr hz n1 s1 s2
        have hr := HO.out.r4
        rcases RW with ⟨r1, t1⟩ | ⟨r1, t1, t2⟩ | ⟨r1, t1, t2, t3⟩ | ⟨r1, t1, t2, t3⟩
        · have HN2 := hide (HNK.out r1)
          clear r1 HNK YK HN
          go_wp2_with fail
          refine (TN.out _ t.p t.q u.p IA IB HU.out.1).mono ?_
          rintro e w1 ⟨rfl, hb⟩
          replace HO := hide (HO.out.to hb)
          clear hr hb
          have hr := HO.out.r4
          go_wp2
          go_roundw
          case rel => exact ⟨0 + 1, by omega, rfl, hide HO.out.tail.tail, HN2⟩
          case measure => simp [intOf]
        · have HN2 := hide (HNK.out r1)
          clear r1 HNK YK HN
          go_wp2_with fail
          refine (TN.out _ t.p t.q u.p IA IB HU.out.1).mono ?_
          rintro e w1 ⟨rfl, hb⟩
          replace HO := hide (HO.out.to hb)
          clear hr hb
          have hr := HO.out.r4
          go_wp2_with fail
          refine (TN.out _ t.p t.q u.q IA IB HU.out.2.1).mono ?_
          rintro e w1 ⟨rfl, hb⟩
          replace HO := hide (HO.out.to hb)
          clear hr hb
          have hr := HO.out.r4
          go_wp2
          go_roundw
          case rel => exact ⟨0 + 1, by omega, rfl, hide HO.out.tail.tail, HN2⟩
          case measure => simp [intOf]
        · have HN2 := hide (HNK.out r1)
          clear r1 HNK YK HN
          go_wp2_with fail
          refine (TN.out _ t.p t.q u.p IA IB HU.out.1).mono ?_
          rintro e w1 ⟨rfl, hb⟩
          replace HO := hide (HO.out.to hb)
          clear hr hb
          have hr := HO.out.r4
          go_wp2_with fail
          refine (TN.out _ t.p t.q u.q IA IB HU.out.2.1).mono ?_
          rintro e w1 ⟨rfl, hb⟩
          replace HO := hide (HO.out.to hb)
          clear hr hb
          have hr := HO.out.r4
          go_wp2_with fail
          refine (TN.out _ t.p t.q u.r IA IB HU.out.2.2).mono ?_
          rintro e w1 ⟨rfl, hb⟩
          replace HO := hide (HO.out.to hb)
          clear hr hb
          have hr := HO.out.r4
          go_wp2
          go_roundw
          case rel => exact ⟨0 + 1, by omega, rfl, hide HO.out.tail.tail, HN2⟩
          case measure => simp [intOf]
        · have E := hide (YK.out r1)
          clear r1 HNK YK HN
          go_wp2_with fail
          refine (TN.out _ t.p t.q u.p IA IB HU.out.1).mono ?_
          rintro e w1 ⟨rfl, hb⟩
          replace HO := hide (HO.out.to hb)
          clear hr hb
          have hr := HO.out.r4
          go_wp2_with fail
          refine (TN.out _ t.p t.q u.q IA IB HU.out.2.1).mono ?_
          rintro e w1 ⟨rfl, hb⟩
          replace HO := hide (HO.out.to hb)
          clear hr hb
          have hr := HO.out.r4
          go_wp2_with fail
          refine (TN.out _ t.p t.q u.r IA IB HU.out.2.2).mono ?_
          rintro e w1 ⟨rfl, hb⟩
          replace HO := hide (HO.out.to hb)
          clear hr hb
          have hr := HO.out.r4
          go_wp2
          go_ret
          exact ⟨ret_bool E.out.symm, HO.out.1⟩
    · clear hk h3
      have hr := HO.out.r2
      have HNK := hide (fun (h : rgt t.q t.r u = false) j (hj : j < 1 + 1) => (show rgt (sdK t j).1 (sdK t j).2 u = false by
        by_cases e : j = 1
        · subst e; exact h
        · exact HN.out j (by omega)))
      have YK := hide (fun (h : rgt t.q t.r u = true) => YES.out 1 (by omega) h)
      have IA : Pnt.in t.q := HT.out.2.1
      have IB : Pnt.in t.r := HT.out.2.2
      have RW := rgt_ways t.q t.r u
      have s1 : IntKind.i64.wrap 2 = 2 := by decide
      have s2 : (2 : Int).tmod 3 = 2 := by decide
      have n1 : ¬ (w.heap.size = w.heap.size + 1) := by omega
      have hz : w.heap.size + 1 < wr.heap.size := hr.1.2.2
      go_upto_region 4 with (fail)
      go_cut [6, 7] (fun v6 v7 wx => ∃ b6 b7 : Nat, v6 = .pointer (some ⟨b6, 0, none⟩) ∧ v7 = .pointer (some ⟨b7, 0, none⟩) ∧ Hid (Own w wx [(b6, 68, #[.int .i64 t.q.x, .int .i64 t.q.y]), (b7, 68, #[.int .i64 t.r.x, .int .i64 t.r.y]), (w.heap.size + 1, 170, #[.int .i64 u.p.x, .int .i64 u.p.y, .int .i64 u.q.x, .int .i64 u.q.y, .int .i64 u.r.x, .int .i64 u.r.y]), (w.heap.size, 170, #[.int .i64 t.p.x, .int .i64 t.p.y, .int .i64 t.q.x, .int .i64 t.q.y, .int .i64 t.r.x, .int .i64 t.r.y])]))
      case first =>
        go_region_held3 (fun w' => w'.cell? ⟨w.heap.size, 2, none⟩ = some (.int .i64 t.q.x) ∧ w'.cell? ⟨w.heap.size, 3, none⟩ = some (.int .i64 t.q.y) ∧ w'.cell? ⟨w.heap.size, 4, none⟩ = some (.int .i64 t.r.x) ∧ w'.cell? ⟨w.heap.size, 5, none⟩ = some (.int .i64 t.r.y)) (go_keep) (fail)
        all_goals
          go_wp2_with fail
          go_meet
          refine ⟨_, _, rfl, rfl, ?_⟩
          first | exact hide (own_two HO.out) | exact hide (own_two HO.out).swap
      case rest =>
        obtain ⟨b6, b7, rfl, rfl, HO⟩ := hcut
        clear hr hz n1 s1 s2
        have hr := HO.out.r4
        rcases RW with ⟨r1, t1⟩ | ⟨r1, t1, t2⟩ | ⟨r1, t1, t2, t3⟩ | ⟨r1, t1, t2, t3⟩
        · have HN2 := hide (HNK.out r1)
          clear r1 HNK YK HN
          go_wp2_with fail
          refine (TN.out _ t.q t.r u.p IA IB HU.out.1).mono ?_
          rintro e w1 ⟨rfl, hb⟩
          replace HO := hide (HO.out.to hb)
          clear hr hb
          have hr := HO.out.r4
          go_wp2
          go_roundw
          case rel => exact ⟨1 + 1, by omega, rfl, hide HO.out.tail.tail, HN2⟩
          case measure => simp [intOf]
        · have HN2 := hide (HNK.out r1)
          clear r1 HNK YK HN
          go_wp2_with fail
          refine (TN.out _ t.q t.r u.p IA IB HU.out.1).mono ?_
          rintro e w1 ⟨rfl, hb⟩
          replace HO := hide (HO.out.to hb)
          clear hr hb
          have hr := HO.out.r4
          go_wp2_with fail
          refine (TN.out _ t.q t.r u.q IA IB HU.out.2.1).mono ?_
          rintro e w1 ⟨rfl, hb⟩
          replace HO := hide (HO.out.to hb)
          clear hr hb
          have hr := HO.out.r4
          go_wp2
          go_roundw
          case rel => exact ⟨1 + 1, by omega, rfl, hide HO.out.tail.tail, HN2⟩
          case measure => simp [intOf]
        · have HN2 := hide (HNK.out r1)
          clear r1 HNK YK HN
          go_wp2_with fail
          refine (TN.out _ t.q t.r u.p IA IB HU.out.1).mono ?_
          rintro e w1 ⟨rfl, hb⟩
          replace HO := hide (HO.out.to hb)
          clear hr hb
          have hr := HO.out.r4
          go_wp2_with fail
          refine (TN.out _ t.q t.r u.q IA IB HU.out.2.1).mono ?_
          rintro e w1 ⟨rfl, hb⟩
          replace HO := hide (HO.out.to hb)
          clear hr hb
          have hr := HO.out.r4
          go_wp2_with fail
          refine (TN.out _ t.q t.r u.r IA IB HU.out.2.2).mono ?_
          rintro e w1 ⟨rfl, hb⟩
          replace HO := hide (HO.out.to hb)
          clear hr hb
          have hr := HO.out.r4
          go_wp2
          go_roundw
          case rel => exact ⟨1 + 1, by omega, rfl, hide HO.out.tail.tail, HN2⟩
          case measure => simp [intOf]
        · have E := hide (YK.out r1)
          clear r1 HNK YK HN
          go_wp2_with fail
          refine (TN.out _ t.q t.r u.p IA IB HU.out.1).mono ?_
          rintro e w1 ⟨rfl, hb⟩
          replace HO := hide (HO.out.to hb)
          clear hr hb
          have hr := HO.out.r4
          go_wp2_with fail
          refine (TN.out _ t.q t.r u.q IA IB HU.out.2.1).mono ?_
          rintro e w1 ⟨rfl, hb⟩
          replace HO := hide (HO.out.to hb)
          clear hr hb
          have hr := HO.out.r4
          go_wp2_with fail
          refine (TN.out _ t.q t.r u.r IA IB HU.out.2.2).mono ?_
          rintro e w1 ⟨rfl, hb⟩
          replace HO := hide (HO.out.to hb)
          clear hr hb
          have hr := HO.out.r4
          go_wp2
          go_ret
          exact ⟨ret_bool E.out.symm, HO.out.1⟩
    · clear hk h3
      have hr := HO.out.r2
      have HNK := hide (fun (h : rgt t.r t.p u = false) j (hj : j < 2 + 1) => (show rgt (sdK t j).1 (sdK t j).2 u = false by
        by_cases e : j = 2
        · subst e; exact h
        · exact HN.out j (by omega)))
      have YK := hide (fun (h : rgt t.r t.p u = true) => YES.out 2 (by omega) h)
      have IA : Pnt.in t.r := HT.out.2.2
      have IB : Pnt.in t.p := HT.out.1
      have RW := rgt_ways t.r t.p u
      have s1 : IntKind.i64.wrap 3 = 3 := by decide
      have s2 : (3 : Int).tmod 3 = 0 := by decide
      have n1 : ¬ (w.heap.size = w.heap.size + 1) := by omega
      have hz : w.heap.size + 1 < wr.heap.size := hr.1.2.2
      go_upto_region 4 with (fail)
      go_cut [6, 7] (fun v6 v7 wx => ∃ b6 b7 : Nat, v6 = .pointer (some ⟨b6, 0, none⟩) ∧ v7 = .pointer (some ⟨b7, 0, none⟩) ∧ Hid (Own w wx [(b6, 68, #[.int .i64 t.r.x, .int .i64 t.r.y]), (b7, 68, #[.int .i64 t.p.x, .int .i64 t.p.y]), (w.heap.size + 1, 170, #[.int .i64 u.p.x, .int .i64 u.p.y, .int .i64 u.q.x, .int .i64 u.q.y, .int .i64 u.r.x, .int .i64 u.r.y]), (w.heap.size, 170, #[.int .i64 t.p.x, .int .i64 t.p.y, .int .i64 t.q.x, .int .i64 t.q.y, .int .i64 t.r.x, .int .i64 t.r.y])]))
      case first =>
        go_region_held3 (fun w' => w'.cell? ⟨w.heap.size, 0, none⟩ = some (.int .i64 t.p.x) ∧ w'.cell? ⟨w.heap.size, 1, none⟩ = some (.int .i64 t.p.y) ∧ w'.cell? ⟨w.heap.size, 4, none⟩ = some (.int .i64 t.r.x) ∧ w'.cell? ⟨w.heap.size, 5, none⟩ = some (.int .i64 t.r.y)) (go_keep) (fail)
        all_goals
          go_wp2_with fail
          go_meet
          refine ⟨_, _, rfl, rfl, ?_⟩
          first | exact hide (own_two HO.out) | exact hide (own_two HO.out).swap
      case rest =>
        obtain ⟨b6, b7, rfl, rfl, HO⟩ := hcut
        clear hr hz n1 s1 s2
        have hr := HO.out.r4
        rcases RW with ⟨r1, t1⟩ | ⟨r1, t1, t2⟩ | ⟨r1, t1, t2, t3⟩ | ⟨r1, t1, t2, t3⟩
        · have HN2 := hide (HNK.out r1)
          clear r1 HNK YK HN
          go_wp2_with fail
          refine (TN.out _ t.r t.p u.p IA IB HU.out.1).mono ?_
          rintro e w1 ⟨rfl, hb⟩
          replace HO := hide (HO.out.to hb)
          clear hr hb
          have hr := HO.out.r4
          go_wp2
          go_roundw
          case rel => exact ⟨2 + 1, by omega, rfl, hide HO.out.tail.tail, HN2⟩
          case measure => simp [intOf]
        · have HN2 := hide (HNK.out r1)
          clear r1 HNK YK HN
          go_wp2_with fail
          refine (TN.out _ t.r t.p u.p IA IB HU.out.1).mono ?_
          rintro e w1 ⟨rfl, hb⟩
          replace HO := hide (HO.out.to hb)
          clear hr hb
          have hr := HO.out.r4
          go_wp2_with fail
          refine (TN.out _ t.r t.p u.q IA IB HU.out.2.1).mono ?_
          rintro e w1 ⟨rfl, hb⟩
          replace HO := hide (HO.out.to hb)
          clear hr hb
          have hr := HO.out.r4
          go_wp2
          go_roundw
          case rel => exact ⟨2 + 1, by omega, rfl, hide HO.out.tail.tail, HN2⟩
          case measure => simp [intOf]
        · have HN2 := hide (HNK.out r1)
          clear r1 HNK YK HN
          go_wp2_with fail
          refine (TN.out _ t.r t.p u.p IA IB HU.out.1).mono ?_
          rintro e w1 ⟨rfl, hb⟩
          replace HO := hide (HO.out.to hb)
          clear hr hb
          have hr := HO.out.r4
          go_wp2_with fail
          refine (TN.out _ t.r t.p u.q IA IB HU.out.2.1).mono ?_
          rintro e w1 ⟨rfl, hb⟩
          replace HO := hide (HO.out.to hb)
          clear hr hb
          have hr := HO.out.r4
          go_wp2_with fail
          refine (TN.out _ t.r t.p u.r IA IB HU.out.2.2).mono ?_
          rintro e w1 ⟨rfl, hb⟩
          replace HO := hide (HO.out.to hb)
          clear hr hb
          have hr := HO.out.r4
          go_wp2
          go_roundw
          case rel => exact ⟨2 + 1, by omega, rfl, hide HO.out.tail.tail, HN2⟩
          case measure => simp [intOf]
        · have E := hide (YK.out r1)
          clear r1 HNK YK HN
          go_wp2_with fail
          refine (TN.out _ t.r t.p u.p IA IB HU.out.1).mono ?_
          rintro e w1 ⟨rfl, hb⟩
          replace HO := hide (HO.out.to hb)
          clear hr hb
          have hr := HO.out.r4
          go_wp2_with fail
          refine (TN.out _ t.r t.p u.q IA IB HU.out.2.1).mono ?_
          rintro e w1 ⟨rfl, hb⟩
          replace HO := hide (HO.out.to hb)
          clear hr hb
          have hr := HO.out.r4
          go_wp2_with fail
          refine (TN.out _ t.r t.p u.r IA IB HU.out.2.2).mono ?_
          rintro e w1 ⟨rfl, hb⟩
          replace HO := hide (HO.out.to hb)
          clear hr hb
          have hr := HO.out.r4
          go_wp2
          go_ret
          exact ⟨ret_bool E.out.symm, HO.out.1⟩
end Go.Proofs.YtdcdfjinbieblaaGreatDoor

namespace Go.Proofs.YtdcdfjinbieblaaGreatDoor
open Go.RowKit

def idxP (p : Int → Bool) (l : List Int) : Int := match l.findIdx? p with | some i => (i : Int) | none => -1
theorem idxP_no {p : Int → Bool} {l : List Int} (h : ∀ i (hi : i < l.length), p l[i] = false) : idxP p l = -1 := by
  have : l.findIdx? p = none := by
    rw [List.findIdx?_eq_none_iff]
    intro x hx
    obtain ⟨i, hi, rfl⟩ := List.mem_iff_getElem.1 hx
    exact h i hi
  simp [idxP, this]
theorem idxP_yes {p : Int → Bool} {l : List Int} {k : Nat} (hk : k < l.length) (h : ∀ i (hi : i < l.length), i < k → p l[i] = false) (hy : p l[k] = true) : idxP p l = k := by
  have : l.findIdx? p = some k := by
    rw [List.findIdx?_eq_some_iff_getElem]
    exact ⟨hk, hy, fun j hj => by rw [h j (by omega) hj]; simp⟩
  simp [idxP, this]
theorem any_idx (p : Int → Bool) (l : List Int) : l.any p = decide (0 ≤ idxP p l) := by
  unfold idxP
  cases h : l.findIdx? p with
  | none =>
    rw [List.findIdx?_eq_none_iff] at h
    rw [Bool.eq_iff_iff]
    simp only [List.any_eq_true, decide_eq_true_eq]
    constructor
    · rintro ⟨x, hx, hp⟩
      rw [h x hx] at hp
      cases hp
    · intro h'
      omega
  | some i =>
    rw [List.findIdx?_eq_some_iff_getElem] at h
    obtain ⟨hi, hp, _⟩ := h
    rw [Bool.eq_iff_iff]
    simp only [List.any_eq_true, decide_eq_true_eq]
    exact ⟨fun _ => by omega, fun _ => ⟨l[i], List.getElem_mem hi, hp⟩⟩

set_option maxHeartbeats 1000000 in
theorem idxfI_any (f : Nat) (p : Int → Bool) (hf : ∀ (d : Int) (w : World), Calls Tryz.prog f #[.int .i64 d] w fun e w' => e = .returned (.bool (p d)) ∧ w = w') (hc : ∀ (d : Int) (w : World), (callFunc f #[.int .i64 d]).run Tryz.prog w = .ok (.enter f #[.int .i64 d]) w) (l : List Int) (A : Option Addr) (cap : Nat) (w : World) (hl : IntSl w A l) :
    Calls Tryz.prog 144 #[.slice A l.length cap, .func (.func f) #[] #[]] w fun e w' => e = .returned (.int .i64 (idxP p l)) ∧ w = w' := by
  have hlen : l.length ≤ 9223372036854775807 := by have := hl.1.1; omega
  have H := hide hl
  have F := hide hf
  clear hl hf
  go_enter Tryz.func144, Tryz.ntmps144
  go_wp2
  go_loop [8] (fun v8 => ∃ k : Nat, k ≤ l.length ∧ v8 = .int .i64 k ∧ Hid (∀ i (hi : i < l.length), i < k → p l[i] = false)) (fun v8 => l.length - (intOf v8).toNat)
  case atStart => exact ⟨0, Nat.zero_le _, rfl, hide (fun _ _ h => by omega)⟩
  case round =>
    obtain ⟨k, hk, rfl, hno⟩ := hrel
    by_cases hlt : k < l.length
    · obtain ⟨b, off, rfl, hbl, hat⟩ := H.out.2 (by omega)
      have c0 := hat k hlt
      clear hat
      rcases Bool.eq_false_or_eq_true (p l[k]) with hs | hs
      · go_wp2_with fail
        refine (F.out l[k] _).mono ?_
        rintro e w' ⟨rfl, rfl⟩
        go_wp2
        go_ret
        exact ⟨ret_int (idxP_yes hlt (fun i hi hik => hno.out i hi hik) hs).symm, rfl⟩
      · go_wp2_with fail
        refine (F.out l[k] _).mono ?_
        rintro e w' ⟨rfl, rfl⟩
        go_wp2
        go_round
        case rel =>
          refine ⟨k + 1, by omega, by go_num, hide fun i hi hik => ?_⟩
          by_cases e : i = k
          · subst e; exact hs
          · exact hno.out i hi (by omega)
        case measure => simp [intOf]; omega
    · go_wp2
      go_ret
      exact ⟨ret_int (idxP_no fun i hi => hno.out i hi (by omega)).symm, rfl⟩
set_option maxHeartbeats 1000000 in
theorem contI_any (f : Nat) (p : Int → Bool) (hf : ∀ (d : Int) (w : World), Calls Tryz.prog f #[.int .i64 d] w fun e w' => e = .returned (.bool (p d)) ∧ w = w') (hc : ∀ (d : Int) (w : World), (callFunc f #[.int .i64 d]).run Tryz.prog w = .ok (.enter f #[.int .i64 d]) w) (l : List Int) (A : Option Addr) (cap : Nat) (w : World) (hl : IntSl w A l) :
    Calls Tryz.prog 118 #[.slice A l.length cap, .func (.func f) #[] #[]] w fun e w' => e = .returned (.bool (l.any p)) ∧ w = w' := by
  have F := hide hf
  have H := hide (any_idx p l)
  clear hf
  have HL := hide hl
  clear hl
  go_enter Tryz.func118, Tryz.ntmps118
  go_wp2_with fail
  refine (idxfI_any f p F.out hc l A cap _ HL.out).mono ?_
  rintro e w' ⟨rfl, rfl⟩
  go_wp2
  go_ret
  exact ⟨ret_bool H.out.symm, rfl⟩
theorem below_drewN {B : Nat} {a w : World} (h : Below B a w) (n : Nat) : Below B a (w.drewN n) := ⟨h.os, h.tape, h.output, h.size, h.block⟩
end Go.Proofs.YtdcdfjinbieblaaGreatDoor

namespace Go.Proofs.YtdcdfjinbieblaaGreatDoor
open Go Go.RowKit

set_option maxHeartbeats 2000000 in
theorem chk2_any (t o : Tri) (bt : Nat) (w : World) (ht : t.in) (ho : o.in) (hB : Blk w bt 170 t.cells.toArray) :
    Calls Tryz.prog 124 #[.agg o.cells.toArray, .pointer (some ⟨bt, 0, none⟩)] w (RetW (.bool (ovlB t o)) w) := by
  have S1 := hide (fun W => mssep_any t o W ht ho)
  have S2 := hide (fun W => mssep_any o t W ho ht)
  unfold RetW at S1 S2
  have E : Hid (ovlB t o = (!sepB t o && !sepB o t)) := hide rfl
  have X := (show Own w w [(bt, 170, #[.int .i64 t.p.x, .int .i64 t.p.y, .int .i64 t.q.x, .int .i64 t.q.y, .int .i64 t.r.x, .int .i64 t.r.y])] from ⟨Below.refl _ _, fun x hx => by rw [List.mem_singleton.1 hx]; exact hB⟩).alloc #[.int .i64 o.p.x, .int .i64 o.p.y, .int .i64 o.q.x, .int .i64 o.q.y, .int .i64 o.r.x, .int .i64 o.r.y] 170
  have n0 := hB.lt
  have n1 : ¬ bt = w.heap.size := by omega
  have hr0 := hB.rules
  generalize sepB t o = b1 at *
  generalize sepB o t = b2 at *
  have hr := X.r2
  cases b1 <;> cases b2
  all_goals
    go_enter Tryz.func124, Tryz.ntmps124
    go_wp2_with fail
    refine (S1.out _).mono ?_
    rintro e w1 ⟨rfl, hb⟩
    replace X := X.to hb
    clear hr hb hr0
    have hr := X.r2
    first
      | (go_wp2_with fail
         refine (S2.out _).mono ?_
         rintro e w2 ⟨rfl, hb⟩
         replace X := X.to hb
         clear hr hb)
      | skip
    go_wp2
    go_ret
    exact ⟨ret_bool (by rw [E.out]; rfl), X.1⟩
/-- a slice of triangles that reads as a list -/
def TriSl (w : World) (A : Option Addr) (l : List Tri) : Prop :=
  l.length ≤ 9223372036854775807 ∧ (0 < l.length → ∃ b off, A = some ⟨b, off, none⟩ ∧ b < w.heap.size ∧ ∀ i (h : i < l.length), w.cell? ⟨b, off + i * 6, none⟩ = some (.int .i64 l[i].p.x) ∧ w.cell? ⟨b, off + i * 6 + 1, none⟩ = some (.int .i64 l[i].p.y) ∧
    w.cell? ⟨b, off + i * 6 + 2, none⟩ = some (.int .i64 l[i].q.x) ∧ w.cell? ⟨b, off + i * 6 + 3, none⟩ = some (.int .i64 l[i].q.y) ∧ w.cell? ⟨b, off + i * 6 + 4, none⟩ = some (.int .i64 l[i].r.x) ∧ w.cell? ⟨b, off + i * 6 + 5, none⟩ = some (.int .i64 l[i].r.y))
theorem TriSl.below {w w' : World} {A : Option Addr} {l : List Tri} (h : TriSl w A l) (hb : Below w.heap.size w w') : TriSl w' A l :=
  ⟨h.1, fun hl => by
    obtain ⟨b, off, e, hlt, hat⟩ := h.2 hl
    have k := fun (i : Nat) => hb.cell (p := ⟨b, i, none⟩) hlt
    refine ⟨b, off, e, Nat.lt_of_lt_of_le hlt hb.size, fun i hi => ?_⟩
    obtain ⟨a0, a1, a2, a3, a4, a5⟩ := hat i hi
    exact ⟨(k _).trans a0, (k _).trans a1, (k _).trans a2, (k _).trans a3, (k _).trans a4, (k _).trans a5⟩⟩
def idxT (p : Tri → Bool) (l : List Tri) : Int := match l.findIdx? p with | some i => (i : Int) | none => -1
theorem idxT_no {p : Tri → Bool} {l : List Tri} (h : ∀ i (hi : i < l.length), p l[i] = false) : idxT p l = -1 := by
  have : l.findIdx? p = none := by
    rw [List.findIdx?_eq_none_iff]
    intro x hx
    obtain ⟨i, hi, rfl⟩ := List.mem_iff_getElem.1 hx
    exact h i hi
  simp [idxT, this]
theorem idxT_yes {p : Tri → Bool} {l : List Tri} {k : Nat} (hk : k < l.length) (h : ∀ i (hi : i < l.length), i < k → p l[i] = false) (hy : p l[k] = true) : idxT p l = k := by
  have : l.findIdx? p = some k := by
    rw [List.findIdx?_eq_some_iff_getElem]
    exact ⟨hk, hy, fun j hj => by rw [h j (by omega) hj]; simp⟩
  simp [idxT, this]
theorem any_idxT (p : Tri → Bool) (l : List Tri) : l.any p = decide (0 ≤ idxT p l) := by
  unfold idxT
  cases h : l.findIdx? p with
  | none =>
    rw [List.findIdx?_eq_none_iff] at h
    rw [Bool.eq_iff_iff]
    simp only [List.any_eq_true, decide_eq_true_eq]
    constructor
    · rintro ⟨x, hx, hp⟩
      rw [h x hx] at hp
      cases hp
    · intro h'
      omega
  | some i =>
    rw [List.findIdx?_eq_some_iff_getElem] at h
    obtain ⟨hi, hp, _⟩ := h
    rw [Bool.eq_iff_iff]
    simp only [List.any_eq_true, decide_eq_true_eq]
    exact ⟨fun _ => by omega, fun _ => ⟨l[i], List.getElem_mem hi, hp⟩⟩
set_option maxRecDepth 100000 in
set_option maxHeartbeats 2000000 in
theorem idxT_any (t : Tri) (l : List Tri) (A : Option Addr) (cap bt : Nat) (w : World) (hl : TriSl w A l) (ht : t.in) (hi : ∀ o ∈ l, Tri.in o) (hB : Blk w bt 170 t.cells.toArray) :
    Calls Tryz.prog 145 #[.slice A l.length cap, .func (.func 124) #[] #[.pointer (some ⟨bt, 0, none⟩)]] w (RetW (.int .i64 (idxT (ovlB t) l)) w) := by
  have hlen : l.length ≤ 9223372036854775807 := hl.1
  have H := hide hl
  have HB := hide hB
  have CK := hide (fun W o (ho : o ∈ l) h => chk2_any t o bt W ht (hi o ho) h)
  unfold RetW at CK
  have nb := hB.lt
  clear hl hB ht hi
  go_enter Tryz.func145, Tryz.ntmps145
  go_wp2
  go_loopw [8] (fun v8 wr => ∃ k : Nat, k ≤ l.length ∧ v8 = .int .i64 k ∧ Hid (Below w.heap.size w wr) ∧ Hid (∀ i (hi : i < l.length), i < k → ovlB t l[i] = false)) (fun v8 _ => l.length - (intOf v8).toNat)
  case atStart => exact ⟨0, Nat.zero_le _, rfl, hide (Below.refl _ _), hide (fun _ _ h => by omega)⟩
  case round =>
    obtain ⟨k, hk, rfl, HW, hno⟩ := hrel
    by_cases hlt : k < l.length
    · obtain ⟨b, off, rfl, hbl, hat⟩ := (H.out.below HW.out).2 (by omega)
      obtain ⟨c0, c1, c2, c3, c4, c5⟩ := hat k hlt
      have HBk := hide (HB.out.below HW.out nb)
      have CKk := hide (fun W h => CK.out W l[k] (List.getElem_mem hlt) h)
      clear hat
      by_cases hs : ovlB t l[k] = true
      · have E := hide (idxT_yes (p := ovlB t) hlt (fun i hi hik => hno.out i hi hik) hs)
        rw [hs] at CKk
        clear hs
        generalize l[k] = o at *
        go_wp2_with fail
        refine (CKk.out _ HBk.out).mono ?_
        rintro e w' ⟨rfl, hb⟩
        go_wp2
        go_ret
        exact ⟨ret_int E.out.symm, below_via HW.out HW.out.size hb⟩
      · have hs : ovlB t l[k] = false := by simpa using hs
        have hno2 := hide (fun i (hi : i < l.length) (hik : i < k + 1) => (show ovlB t l[i] = false by
          by_cases e : i = k
          · subst e; exact hs
          · exact hno.out i hi (by omega)))
        rw [hs] at CKk
        clear hs
        generalize l[k] = o at *
        go_wp2_with fail
        refine (CKk.out _ HBk.out).mono ?_
        rintro e w' ⟨rfl, hb⟩
        have HW2 := hide (below_via HW.out HW.out.size hb)
        clear hb
        go_wp2
        go_roundw
        case rel => exact ⟨k + 1, by omega, by go_num, HW2, hno2⟩
        case measure => simp [intOf]; omega
    · go_wp2
      go_ret
      exact ⟨ret_int (idxT_no fun i hi => hno.out i hi (by omega)).symm, HW.out⟩
set_option maxHeartbeats 1000000 in
theorem contT_any (t : Tri) (l : List Tri) (A : Option Addr) (cap bt : Nat) (w : World) (hl : TriSl w A l) (ht : t.in) (hi : ∀ o ∈ l, Tri.in o) (hB : Blk w bt 170 t.cells.toArray) :
    Calls Tryz.prog 123 #[.slice A l.length cap, .func (.func 124) #[] #[.pointer (some ⟨bt, 0, none⟩)]] w (RetW (.bool (l.any (ovlB t))) w) := by
  have C := hide (idxT_any t l A cap bt w hl ht hi hB)
  have E := hide (any_idxT (ovlB t) l)
  generalize idxT (ovlB t) l = i at *
  unfold RetW at C
  clear hl ht hi hB
  go_enter Tryz.func123, Tryz.ntmps123
  go_wp2_with fail
  refine C.out.mono ?_
  rintro e w' ⟨rfl, hb⟩
  go_wp2
  go_ret
  exact ⟨ret_bool E.out.symm, hb⟩
end Go.Proofs.YtdcdfjinbieblaaGreatDoor

namespace Go.Proofs.YtdcdfjinbieblaaGreatDoor
open Go Go.RowKit

set_option maxHeartbeats 1000000 in
theorem idxfI2_any (f : Nat) (p : Int → Bool) (p1 p2 : Value) (w : World) (hf : ∀ d : Int, Calls Tryz.prog f #[.int .i64 d, p1, p2] w fun e w' => e = .returned (.bool (p d)) ∧ w = w') (hc : ∀ (d : Int) (w : World), (callFunc f #[.int .i64 d, p1, p2]).run Tryz.prog w = .ok (.enter f #[.int .i64 d, p1, p2]) w) (l : List Int) (A : Option Addr) (cap : Nat) (hl : IntSl w A l) :
    Calls Tryz.prog 144 #[.slice A l.length cap, .func (.func f) #[] #[p1, p2]] w fun e w' => e = .returned (.int .i64 (idxP p l)) ∧ w = w' := by
  have hlen : l.length ≤ 9223372036854775807 := by have := hl.1.1; omega
  have H := hide hl
  have F := hide hf
  clear hl hf
  go_enter Tryz.func144, Tryz.ntmps144
  go_wp2
  go_loop [8] (fun v8 => ∃ k : Nat, k ≤ l.length ∧ v8 = .int .i64 k ∧ Hid (∀ i (hi : i < l.length), i < k → p l[i] = false)) (fun v8 => l.length - (intOf v8).toNat)
  case atStart => exact ⟨0, Nat.zero_le _, rfl, hide (fun _ _ h => by omega)⟩
  case round =>
    obtain ⟨k, hk, rfl, hno⟩ := hrel
    by_cases hlt : k < l.length
    · obtain ⟨b, off, rfl, hbl, hat⟩ := H.out.2 (by omega)
      have c0 := hat k hlt
      clear hat
      rcases Bool.eq_false_or_eq_true (p l[k]) with hs | hs
      · go_wp2_with fail
        refine (F.out l[k]).mono ?_
        rintro e w' ⟨rfl, rfl⟩
        go_wp2
        go_ret
        exact ⟨ret_int (idxP_yes hlt (fun i hi hik => hno.out i hi hik) hs).symm, rfl⟩
      · go_wp2_with fail
        refine (F.out l[k]).mono ?_
        rintro e w' ⟨rfl, rfl⟩
        go_wp2
        go_round
        case rel =>
          refine ⟨k + 1, by omega, by go_num, hide fun i hi hik => ?_⟩
          by_cases e : i = k
          · subst e; exact hs
          · exact hno.out i hi (by omega)
        case measure => simp [intOf]; omega
    · go_wp2
      go_ret
      exact ⟨ret_int (idxP_no fun i hi => hno.out i hi (by omega)).symm, rfl⟩
set_option maxHeartbeats 1000000 in
theorem contI2_any (f : Nat) (p : Int → Bool) (p1 p2 : Value) (w : World) (hf : ∀ d : Int, Calls Tryz.prog f #[.int .i64 d, p1, p2] w fun e w' => e = .returned (.bool (p d)) ∧ w = w') (hc : ∀ (d : Int) (w : World), (callFunc f #[.int .i64 d, p1, p2]).run Tryz.prog w = .ok (.enter f #[.int .i64 d, p1, p2]) w) (l : List Int) (A : Option Addr) (cap : Nat) (hl : IntSl w A l) :
    Calls Tryz.prog 118 #[.slice A l.length cap, .func (.func f) #[] #[p1, p2]] w fun e w' => e = .returned (.bool (l.any p)) ∧ w = w' := by
  have F := hide hf
  have H := hide (any_idx p l)
  clear hf
  have HL := hide hl
  clear hl
  go_enter Tryz.func118, Tryz.ntmps118
  go_wp2_with fail
  refine (idxfI2_any f p p1 p2 _ F.out hc l A cap HL.out).mono ?_
  rintro e w' ⟨rfl, rfl⟩
  go_wp2
  go_ret
  exact ⟨ret_bool H.out.symm, rfl⟩
/-- a slice of bools that says which spots are not right -/
def FarSl (w : World) (A : Option Addr) (l : List Spt) : Prop := 0 < l.length → ∃ b off, A = some ⟨b, off, none⟩ ∧ b < w.heap.size ∧ ∀ i (h : i < l.length), w.cell? ⟨b, off + i, none⟩ = some (.bool (!okS l[i]))
theorem FarSl.below {w w' : World} {A : Option Addr} {l : List Spt} (h : FarSl w A l) (hb : Below w.heap.size w w') : FarSl w' A l := fun hl => by
  obtain ⟨b, off, e, hlt, hat⟩ := h hl
  exact ⟨b, off, e, Nat.lt_of_lt_of_le hlt hb.size, fun i hi => (hb.cell (p := ⟨b, off + i, none⟩) hlt).trans (hat i hi)⟩
set_option maxHeartbeats 2000000 in
theorem chk1_any (m : Msh) (a : MshA) (k : Int) (bm bf : Nat) (F : Option Addr) (fc : Nat) (w : World) (hlen : m.ss.length ≤ 9223372036854775807) (hM : Blk w bm 65 (m.cells a)) (hF : Blk w bf 161 #[.slice F m.ss.length fc]) (hs : FarSl w F m.ss) :
    Calls Tryz.prog 119 #[.int .i64 k, .pointer (some ⟨bm, 0, none⟩), .pointer (some ⟨bf, 0, none⟩)] w fun e w' => e = .returned (.bool (!cnB m.ss k)) ∧ w = w' := by
  have E : Hid (cnB m.ss k = (decide (0 ≤ k) && decide (k < m.ss.length) && okS (spA m.ss k))) := hide rfl
  have r1 := hM.rules
  have r2 := hF.rules
  by_cases h0 : 0 ≤ k
  case neg =>
    have d0 : decide (k < 0) = true := decide_eq_true (by omega)
    go_enter Tryz.func119, Tryz.ntmps119
    go_wp2
    go_ret
    exact ⟨ret_bool (by rw [E.out]; simp [h0]), rfl⟩
  obtain ⟨k, rfl⟩ : ∃ n : Nat, k = (n : Int) := ⟨k.toNat, by omega⟩
  have d0 : decide ((k : Int) < 0) = false := decide_eq_false (by omega)
  by_cases h1 : k < m.ss.length
  case neg =>
    go_enter Tryz.func119, Tryz.ntmps119
    go_wp2
    go_ret
    exact ⟨ret_bool (by rw [E.out]; simp; omega), rfl⟩
  obtain ⟨b, off, rfl, hbl, hat⟩ := hs (by omega)
  have c0 := hat k h1
  have es : spA m.ss (k : Int) = m.ss[k] := by simp [spA, h1]
  rw [es] at E
  have E2 : Hid (cnB m.ss (k : Int) = okS m.ss[k]) := hide (by rw [E.out]; simp [h1])
  clear E es hat
  generalize okS m.ss[k] = ok at *
  go_enter Tryz.func119, Tryz.ntmps119
  go_wp2
  go_ret
  exact ⟨ret_bool (by rw [E2.out]; simp; omega), rfl⟩
theorem cont1_any (m : Msh) (a : MshA) (l : List Int) (A : Option Addr) (cap bm bf : Nat) (F : Option Addr) (fc : Nat) (w : World) (hl : IntSl w A l) (hlen : m.ss.length ≤ 9223372036854775807) (hM : Blk w bm 65 (m.cells a)) (hF : Blk w bf 161 #[.slice F m.ss.length fc]) (hs : FarSl w F m.ss) :
    Calls Tryz.prog 118 #[.slice A l.length cap, .func (.func 119) #[] #[.pointer (some ⟨bm, 0, none⟩), .pointer (some ⟨bf, 0, none⟩)]] w fun e w' => e = .returned (.bool (l.any fun k => !cnB m.ss k)) ∧ w = w' :=
  contI2_any 119 (fun k => !cnB m.ss k) _ _ w (fun d => chk1_any m a d bm bf F fc w hlen hM hF hs) (fun d w => enters_of Tryz.func119 (by kernel_rfl) rfl _ w) l A cap hl
end Go.Proofs.YtdcdfjinbieblaaGreatDoor

namespace Go.Proofs.YtdcdfjinbieblaaGreatDoor
open Go.RowKit

/-- a row of cells, place by place -/
def mkRow (n : Nat) (f : Nat → Value) : Array Value := ((List.range n).map f).toArray
theorem mkRow_size (n : Nat) (f : Nat → Value) : (mkRow n f).size = n := by simp [mkRow]
theorem mkRow_at (n : Nat) (f : Nat → Value) {i : Nat} (h : i < n) : (mkRow n f)[i]? = some (f i) := by simp [mkRow, h]
theorem mkRow_set (n : Nat) (f : Nat → Value) (i : Nat) (v : Value) : (mkRow n f).setIfInBounds i v = mkRow n (fun j => if j = i then v else f j) := by
  apply Array.ext
  · simp [mkRow]
  · intro j h1 h2
    simp only [mkRow, Array.size_setIfInBounds, List.size_toArray, List.length_map, List.length_range] at h1
    by_cases e : j = i
    · subst e; simp [mkRow]
    · rw [Array.getElem_setIfInBounds_ne (hj := by simpa [mkRow] using h1) (h := fun h => e h.symm)]
      simp [mkRow, e]
theorem mkRow_congr {n : Nat} {f g : Nat → Value} (h : ∀ i, i < n → f i = g i) : mkRow n f = mkRow n g := by
  unfold mkRow
  congr 1
  exact List.map_congr_left (fun i hi => h i (List.mem_range.1 hi))
theorem mkRow_made (n : Nat) (z : Value) : madeCells #[z] n = mkRow n (fun _ => z) := by
  apply Array.ext'
  rw [toList_madeCells_one]
  simp [mkRow, List.map_const']
/-- a block of the call's own that holds integers, read as a slice -/
theorem IntSl.of_blk {w : World} {g n : Nat} {t : TypeId} {f : Nat → Int} (h : Blk w g t (mkRow n (fun i => .int .i64 (f i)))) (hn : n ≤ 9223372036854775807) (hr : ∀ i, i < n → -9223372036854775808 ≤ f i ∧ f i ≤ 9223372036854775807) : IntSl w (some ⟨g, 0, none⟩) ((List.range n).map f) := by
  refine ⟨⟨by simpa using hn, fun i hi => ?_⟩, fun _ => ⟨g, 0, rfl, h.lt, fun i hi => ?_⟩⟩
  · simp only [List.length_map, List.length_range] at hi
    simpa using hr i hi
  · simp only [List.length_map, List.length_range] at hi
    rw [Nat.zero_add, h.cell, mkRow_at n _ hi]
    simp
end Go.Proofs.YtdcdfjinbieblaaGreatDoor
