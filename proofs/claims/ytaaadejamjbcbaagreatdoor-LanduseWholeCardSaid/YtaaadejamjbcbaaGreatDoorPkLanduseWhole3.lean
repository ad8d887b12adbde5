/- Parts of one proof, joined: The last step of a law's row, once for all laws: where the call answers true and nothing that was there has turned, the row's outcome is reached. Maps whose keys are points or pairs of integers and whose elements are bools, that the call made: look-up and store. The rules that the walk uses of six to ten blocks of its own. Small functions of the program's surfaces: small, right, point, corners, turn, triangle, side: what each returns; nothing that was there is turned. The program's triangle, separates, and the two functions that Check hands on: what each returns; nothing that was there is turned. -/
import Derived.Test.YtaaadejamjbcbaaGreatDoorPkLanduseWhole2
import Derived.Maps.OwnOps
import Derived.DeepKeys5
import Derived.WideKeyPair
import Derived.Deep.RegionHeld3
import Derived.Deep.RegionWith
import Derived.Deep.QuietTactic
import Derived.BigQuiet
namespace Go.Proofs.YtaaadejamjbcbaaGreatDoor
open Go.RowKit Go.ChangeShapes Go.WideShapes Go.ChangeAt

theorem own : ownKnob Tryz.prog.godebug = none := by kernel_rfl
theorem laidOut : laidOutB Tryz.prog = true := by kernel_rfl
section
variable {H : Type} {enc : TypeId × Value → H} {P : Program}
theorem trodAll_stays (hl : laidOutB P = true) {W W' : World} {sp : Nat → Bool} (hb : Below W.heap.size W W') :
    ∀ (ts : List TypeId) (vs : List Value) (ds : List (DataW H)) (ps : List MemPlace), ts.all (fun t => P.readableRec t && decide (t < P.types.size)) = true →
      DataW.TrodAll enc P W 0 (fun _ => true) true ts vs ds ps → (∀ p ∈ ps, p.block < W.heap.size) → (∀ p ∈ ps, sp p.block = true) → DataW.TrodAll enc P W' 0 sp true ts vs ds ps
  | [], vs, ds, ps, _, h, _, _ => by obtain ⟨rfl, rfl, rfl⟩ := trodAll_nil h; exact trodAll_mk0
  | t :: ts, vs, ds, ps, hr, h, hlt, hsp => by
    obtain ⟨v, vs', d, ds', p, q, rfl, rfl, rfl, h1, h2⟩ := trodAll_cons h
    simp only [List.all_cons, Bool.and_eq_true, decide_eq_true_eq] at hr
    exact trodAll_cons_mk (WideElems.Trod_stays hl hr.1.1 hr.1.2 h1 (fun x hx => hb.same (hlt x (by simp [hx]))) (fun x hx => hsp x (by simp [hx])))
      (trodAll_stays hl hb ts vs' ds' q hr.2 h2 (fun x hx => hlt x (by simp [hx])) (fun x hx => hsp x (by simp [hx])))
theorem trodAll_length : ∀ {w : World} {base : Nat} {sp : Nat → Bool} {hd : Bool} (ts : List TypeId) (vs : List Value) (ds : List (DataW H)) (ps : List MemPlace), DataW.TrodAll enc P w base sp hd ts vs ds ps → ds.length = ts.length
  | _, _, _, _, [], vs, ds, ps, h => by obtain ⟨rfl, rfl, rfl⟩ := trodAll_nil h; rfl
  | _, _, _, _, t :: ts, vs, ds, ps, h => by
    obtain ⟨v, vs', d, ds', p, q, rfl, rfl, rfl, h1, h2⟩ := trodAll_cons h
    simp [trodAll_length ts vs' ds' q h2]
theorem law_post {fn : Func} {s : ChangeSpec} {W W' : World} {args : Array Value} {ds gs : List (DataW H)} {before : List MemPlace} (hl : laidOutB P = true)
    (hread : fn.params.toList.all (fun t => P.readableRec t && decide (t < P.types.size)) = true) (hv : s.vars = []) (tb : TypeId) (hres : fn.resultTypes = #[tb]) (htb : P.underlying tb = some .bool)
    (hspec : ∀ ds : List (DataW H), ds.length = fn.params.size → s.fn H (ds ++ []) = { results := [.lit (.bool true)], args := ds })
    (hW : DataW.Whole enc P fn.params.toList s.vars false W args.toList ds gs before) (hb : Below W.heap.size W W') : s.post enc P fn false true false false W args (.bool true) W' := by
  have hW' := hW
  obtain ⟨p, q, hA, hV, hpq, _, _⟩ := hW
  rw [hv] at hV
  obtain ⟨rfl, rfl⟩ := trodVars_none hV
  have hlen : ds.length = fn.params.size := by simpa using trodAll_length _ _ _ _ hA
  have e := hspec ds hlen
  simp only [List.append_nil] at hpq
  subst hpq
  refine post_of_below (pa := before) (pv := []) hW' ?_ ?_ ?_ (by simp) hb ?_
  · intro b sp hd
    rw [e, hres]
    exact trodAll_mk1 (shut_bool htb true)
  · intro sp hsp
    rw [e]
    exact trodAll_stays hl hb _ _ _ _ hread hA (fun x hx => hW'.lt x hx) hsp
  · intro sp _
    rw [hv, e]
    rfl
  · exact ok_one hres rfl (okWide_bool_mk htb true)
end
end Go.Proofs.YtaaadejamjbcbaaGreatDoor

namespace Go.Proofs.YtaaadejamjbcbaaGreatDoor
open Go Go.RowKit Go.WideMaps

theorem wf_i64 {n : Int} (h : i64 n) : (Lit.int .i64 n).wf = true := by
  unfold i64 at h
  simp [Lit.wf, IntKind.min, IntKind.max, IntKind.signed, IntKind.bits]
  omega
theorem pt_keyed : Maps.Keyed Tryz.prog 95 := Maps.Keyed.of_law (deep_law_gate laidOut (of_decide_eq_true (by kernel_rfl)) (of_decide_eq_true (by kernel_rfl)) (by kernel_rfl) (by kernel_rfl))
theorem sd_keyed : Maps.Keyed Tryz.prog 127 := Maps.Keyed.of_law (deep_law_gate laidOut (of_decide_eq_true (by kernel_rfl)) (of_decide_eq_true (by kernel_rfl)) (by kernel_rfl) (by kernel_rfl))
theorem types_pos : ∃ m, Tryz.prog.types.size = m + 1 := Nat.exists_eq_succ_of_ne_zero (fun e => by
  have : (Tryz.prog.types.size == 0) = false := by kernel_rfl
  rw [e] at this
  cases this)
theorem int_key (d : Nat) {n : Int} (h : i64 n) : Tryz.prog.keyLits (d + 1) 3 [.int .i64 n] = some [.int .i64 n] := by
  unfold Program.keyLits
  rw [Tryz.underlying3]
  simp [wf_i64 h]
theorem pt_key (p : Pnt) (hx : i64 p.x) (hy : i64 p.y) : keyOf Tryz.prog 95 p.val = some (.string (keyBytes [.int .i64 p.x, .int .i64 p.y])) := by
  have hkt : Tryz.prog.keyType 95 = true := by kernel_rfl
  have hc : Tryz.prog.cellsOf 95 = 2 := by kernel_rfl
  have hi : Tryz.prog.cellsOf 3 = 1 := by kernel_rfl
  obtain ⟨m, hm⟩ := types_pos
  unfold keyOf
  simp only [Tryz.underlying95]
  rw [if_pos (by simp [hkt, Value.formed, Tryz.underlying95, hc]), hm]
  obtain ⟨m', rfl⟩ : ∃ m', m = m' + 1 := Nat.exists_eq_succ_of_ne_zero (fun e => by
    have : (Tryz.prog.types.size == 1) = false := by kernel_rfl
    rw [hm, e] at this
    cases this)
  unfold Program.keyLits
  simp only [Tryz.underlying95, Value.cells]
  rw [if_pos (by rw [hc]; exact ⟨rfl, by kernel_rfl⟩)]
  have e1 := int_key (m' + 1) hx
  have e2 := int_key (m' + 1) hy
  simp [hi, e1, e2]
theorem sd_key (a b : Int) (hx : i64 a) (hy : i64 b) : keyOf Tryz.prog 127 (.agg #[.int .i64 a, .int .i64 b]) = some (.string (keyBytes [.int .i64 a, .int .i64 b])) :=
  keyOf_pair (e := 3) ⟨Tryz.underlying127, by kernel_rfl, by kernel_rfl, by kernel_rfl⟩ Tryz.underlying3 types_pos (wf_i64 hx) (wf_i64 hy)
/-- an element that reads as a bool is that bool -/
theorem plainBool_inv {e : TypeId} (he : Tryz.prog.underlying e = some .bool) {v : Value} {z : DataW Unit × List MemPlace} (h : plainElem Tryz.prog e v = some z) : ∃ b, v = .bool b ∧ z = (.lit (.bool b), []) := by
  unfold plainElem at h
  rw [he] at h
  cases v <;> simp at h
  exact ⟨_, rfl, h.symm⟩
abbrev MapB (W : World) (k b n : Nat) (D : DataW Unit) : Prop := W.ownsMap Tryz.prog k (plainElem (H := Unit) Tryz.prog 4) b n D
theorem zero_bool (W : World) : (zeroValue 4).run Tryz.prog W = .ok (.bool false) W := Tryz.zeroValue4 W
theorem MapB.look {W : World} {k t b n : Nat} {D : DataW Unit} (h : MapB W k b n D) (K : Maps.Keyed Tryz.prog k) (ht : Tryz.prog.underlying t = some (.map k 4)) {key : Value} {kl : Lit} (hkey : keyOf Tryz.prog k key = some kl) :
    ∃ c : Bool, (Instr.lookup t (.map (some b)) key false).run Tryz.prog W = .ok (.bool c) W ∧ D.atKey kl (.lit (.bool false)) = .lit (.bool c) := by
  obtain ⟨v, ps, hrun, hv⟩ := World.ownsMap.lookup h K ht (zero_bool W) (Go.plainElem_bool Tryz.underlying4 false) hkey
  obtain ⟨c, rfl, hc⟩ := plainBool_inv Tryz.underlying4 hv
  simp only [Prod.mk.injEq] at hc
  exact ⟨c, hrun, hc.1⟩
/-- the map says yes at just these keys -/
def Says (D : DataW Unit) (key : Lit → Prop) : Prop := Maps.IsMap D ∧ ∀ l, WideAt.IsKeyLit l → ∃ c : Bool, D.atKey l (.lit (.bool false)) = .lit (.bool c) ∧ (c = true ↔ key l)
theorem Says.empty : Says (.map []) (fun _ => False) := ⟨⟨[], rfl⟩, fun l _ => ⟨false, rfl, by simp⟩⟩
theorem Says.put {D : DataW Unit} {key : Lit → Prop} (h : Says D key) {k : Lit} (hk : WideAt.IsKeyLit k) : Says (D.put k (.lit (.bool true))) (fun l => l = k ∨ key l) := by
  refine ⟨h.1.put k _, fun l hl => ?_⟩
  by_cases e : l = k
  · subst e
    exact ⟨true, Maps.atKey_put_same h.1 hl _ _, by simp⟩
  · obtain ⟨c, h1, h2⟩ := h.2 l hl
    exact ⟨c, (Maps.atKey_put_other e _ _).trans h1, by simp [e, h2]⟩
theorem MapB.says {W : World} {k t b n : Nat} {D : DataW Unit} {key : Lit → Prop} (h : MapB W k b n D) (K : Maps.Keyed Tryz.prog k) (ht : Tryz.prog.underlying t = some (.map k 4)) (hs : Says D key) {kv : Value} {kl : Lit} (hkey : keyOf Tryz.prog k kv = some kl) :
    ∃ c : Bool, (Instr.lookup t (.map (some b)) kv false).run Tryz.prog W = .ok (.bool c) W ∧ (c = true ↔ key kl) := by
  obtain ⟨c, h1, h2⟩ := h.look K ht hkey
  obtain ⟨c', h3, h4⟩ := hs.2 kl (K.key hkey)
  rw [h3] at h2
  injection h2 with h2
  injection h2 with h2
  subst h2
  exact ⟨c', h1, h4⟩
end Go.Proofs.YtaaadejamjbcbaaGreatDoor

namespace Go.Proofs.YtaaadejamjbcbaaGreatDoor

theorem Own.r6 {w W : World} {b0 b1 b2 b3 b4 b5 : Nat} {t0 t1 t2 t3 t4 t5 : TypeId} {c0 c1 c2 c3 c4 c5 : Array Value} {L} (h : Own w W ((b0, t0, c0) :: (b1, t1, c1) :: (b2, t2, c2) :: (b3, t3, c3) :: (b4, t4, c4) :: (b5, t5, c5) :: L)) :
    ((∀ i, W.cell? ⟨b0, i, none⟩ = c0[i]?) ∧ (∀ i, W.frozen? ⟨b0, i, none⟩ = false) ∧ b0 < W.heap.size) ∧
    ((∀ i, W.cell? ⟨b1, i, none⟩ = c1[i]?) ∧ (∀ i, W.frozen? ⟨b1, i, none⟩ = false) ∧ b1 < W.heap.size) ∧
    ((∀ i, W.cell? ⟨b2, i, none⟩ = c2[i]?) ∧ (∀ i, W.frozen? ⟨b2, i, none⟩ = false) ∧ b2 < W.heap.size) ∧
    ((∀ i, W.cell? ⟨b3, i, none⟩ = c3[i]?) ∧ (∀ i, W.frozen? ⟨b3, i, none⟩ = false) ∧ b3 < W.heap.size) ∧
    ((∀ i, W.cell? ⟨b4, i, none⟩ = c4[i]?) ∧ (∀ i, W.frozen? ⟨b4, i, none⟩ = false) ∧ b4 < W.heap.size) ∧
    ((∀ i, W.cell? ⟨b5, i, none⟩ = c5[i]?) ∧ (∀ i, W.frozen? ⟨b5, i, none⟩ = false) ∧ b5 < W.heap.size) := ⟨h.r1, h.tail.r5⟩
theorem Own.r7 {w W : World} {b0 b1 b2 b3 b4 b5 b6 : Nat} {t0 t1 t2 t3 t4 t5 t6 : TypeId} {c0 c1 c2 c3 c4 c5 c6 : Array Value} {L} (h : Own w W ((b0, t0, c0) :: (b1, t1, c1) :: (b2, t2, c2) :: (b3, t3, c3) :: (b4, t4, c4) :: (b5, t5, c5) :: (b6, t6, c6) :: L)) :
    ((∀ i, W.cell? ⟨b0, i, none⟩ = c0[i]?) ∧ (∀ i, W.frozen? ⟨b0, i, none⟩ = false) ∧ b0 < W.heap.size) ∧
    ((∀ i, W.cell? ⟨b1, i, none⟩ = c1[i]?) ∧ (∀ i, W.frozen? ⟨b1, i, none⟩ = false) ∧ b1 < W.heap.size) ∧
    ((∀ i, W.cell? ⟨b2, i, none⟩ = c2[i]?) ∧ (∀ i, W.frozen? ⟨b2, i, none⟩ = false) ∧ b2 < W.heap.size) ∧
    ((∀ i, W.cell? ⟨b3, i, none⟩ = c3[i]?) ∧ (∀ i, W.frozen? ⟨b3, i, none⟩ = false) ∧ b3 < W.heap.size) ∧
    ((∀ i, W.cell? ⟨b4, i, none⟩ = c4[i]?) ∧ (∀ i, W.frozen? ⟨b4, i, none⟩ = false) ∧ b4 < W.heap.size) ∧
    ((∀ i, W.cell? ⟨b5, i, none⟩ = c5[i]?) ∧ (∀ i, W.frozen? ⟨b5, i, none⟩ = false) ∧ b5 < W.heap.size) ∧
    ((∀ i, W.cell? ⟨b6, i, none⟩ = c6[i]?) ∧ (∀ i, W.frozen? ⟨b6, i, none⟩ = false) ∧ b6 < W.heap.size) := ⟨h.r1, h.tail.r6⟩
theorem Own.r8 {w W : World} {b0 b1 b2 b3 b4 b5 b6 b7 : Nat} {t0 t1 t2 t3 t4 t5 t6 t7 : TypeId} {c0 c1 c2 c3 c4 c5 c6 c7 : Array Value} {L} (h : Own w W ((b0, t0, c0) :: (b1, t1, c1) :: (b2, t2, c2) :: (b3, t3, c3) :: (b4, t4, c4) :: (b5, t5, c5) :: (b6, t6, c6) :: (b7, t7, c7) :: L)) :
    ((∀ i, W.cell? ⟨b0, i, none⟩ = c0[i]?) ∧ (∀ i, W.frozen? ⟨b0, i, none⟩ = false) ∧ b0 < W.heap.size) ∧
    ((∀ i, W.cell? ⟨b1, i, none⟩ = c1[i]?) ∧ (∀ i, W.frozen? ⟨b1, i, none⟩ = false) ∧ b1 < W.heap.size) ∧
    ((∀ i, W.cell? ⟨b2, i, none⟩ = c2[i]?) ∧ (∀ i, W.frozen? ⟨b2, i, none⟩ = false) ∧ b2 < W.heap.size) ∧
    ((∀ i, W.cell? ⟨b3, i, none⟩ = c3[i]?) ∧ (∀ i, W.frozen? ⟨b3, i, none⟩ = false) ∧ b3 < W.heap.size) ∧
    ((∀ i, W.cell? ⟨b4, i, none⟩ = c4[i]?) ∧ (∀ i, W.frozen? ⟨b4, i, none⟩ = false) ∧ b4 < W.heap.size) ∧
    ((∀ i, W.cell? ⟨b5, i, none⟩ = c5[i]?) ∧ (∀ i, W.frozen? ⟨b5, i, none⟩ = false) ∧ b5 < W.heap.size) ∧
    ((∀ i, W.cell? ⟨b6, i, none⟩ = c6[i]?) ∧ (∀ i, W.frozen? ⟨b6, i, none⟩ = false) ∧ b6 < W.heap.size) ∧
    ((∀ i, W.cell? ⟨b7, i, none⟩ = c7[i]?) ∧ (∀ i, W.frozen? ⟨b7, i, none⟩ = false) ∧ b7 < W.heap.size) := ⟨h.r1, h.tail.r7⟩
theorem Own.r9 {w W : World} {b0 b1 b2 b3 b4 b5 b6 b7 b8 : Nat} {t0 t1 t2 t3 t4 t5 t6 t7 t8 : TypeId} {c0 c1 c2 c3 c4 c5 c6 c7 c8 : Array Value} {L} (h : Own w W ((b0, t0, c0) :: (b1, t1, c1) :: (b2, t2, c2) :: (b3, t3, c3) :: (b4, t4, c4) :: (b5, t5, c5) :: (b6, t6, c6) :: (b7, t7, c7) :: (b8, t8, c8) :: L)) :
    ((∀ i, W.cell? ⟨b0, i, none⟩ = c0[i]?) ∧ (∀ i, W.frozen? ⟨b0, i, none⟩ = false) ∧ b0 < W.heap.size) ∧
    ((∀ i, W.cell? ⟨b1, i, none⟩ = c1[i]?) ∧ (∀ i, W.frozen? ⟨b1, i, none⟩ = false) ∧ b1 < W.heap.size) ∧
    ((∀ i, W.cell? ⟨b2, i, none⟩ = c2[i]?) ∧ (∀ i, W.frozen? ⟨b2, i, none⟩ = false) ∧ b2 < W.heap.size) ∧
    ((∀ i, W.cell? ⟨b3, i, none⟩ = c3[i]?) ∧ (∀ i, W.frozen? ⟨b3, i, none⟩ = false) ∧ b3 < W.heap.size) ∧
    ((∀ i, W.cell? ⟨b4, i, none⟩ = c4[i]?) ∧ (∀ i, W.frozen? ⟨b4, i, none⟩ = false) ∧ b4 < W.heap.size) ∧
    ((∀ i, W.cell? ⟨b5, i, none⟩ = c5[i]?) ∧ (∀ i, W.frozen? ⟨b5, i, none⟩ = false) ∧ b5 < W.heap.size) ∧
    ((∀ i, W.cell? ⟨b6, i, none⟩ = c6[i]?) ∧ (∀ i, W.frozen? ⟨b6, i, none⟩ = false) ∧ b6 < W.heap.size) ∧
    ((∀ i, W.cell? ⟨b7, i, none⟩ = c7[i]?) ∧ (∀ i, W.frozen? ⟨b7, i, none⟩ = false) ∧ b7 < W.heap.size) ∧
    ((∀ i, W.cell? ⟨b8, i, none⟩ = c8[i]?) ∧ (∀ i, W.frozen? ⟨b8, i, none⟩ = false) ∧ b8 < W.heap.size) := ⟨h.r1, h.tail.r8⟩
theorem Own.r10 {w W : World} {b0 b1 b2 b3 b4 b5 b6 b7 b8 b9 : Nat} {t0 t1 t2 t3 t4 t5 t6 t7 t8 t9 : TypeId} {c0 c1 c2 c3 c4 c5 c6 c7 c8 c9 : Array Value} {L} (h : Own w W ((b0, t0, c0) :: (b1, t1, c1) :: (b2, t2, c2) :: (b3, t3, c3) :: (b4, t4, c4) :: (b5, t5, c5) :: (b6, t6, c6) :: (b7, t7, c7) :: (b8, t8, c8) :: (b9, t9, c9) :: L)) :
    ((∀ i, W.cell? ⟨b0, i, none⟩ = c0[i]?) ∧ (∀ i, W.frozen? ⟨b0, i, none⟩ = false) ∧ b0 < W.heap.size) ∧
    ((∀ i, W.cell? ⟨b1, i, none⟩ = c1[i]?) ∧ (∀ i, W.frozen? ⟨b1, i, none⟩ = false) ∧ b1 < W.heap.size) ∧
    ((∀ i, W.cell? ⟨b2, i, none⟩ = c2[i]?) ∧ (∀ i, W.frozen? ⟨b2, i, none⟩ = false) ∧ b2 < W.heap.size) ∧
    ((∀ i, W.cell? ⟨b3, i, none⟩ = c3[i]?) ∧ (∀ i, W.frozen? ⟨b3, i, none⟩ = false) ∧ b3 < W.heap.size) ∧
    ((∀ i, W.cell? ⟨b4, i, none⟩ = c4[i]?) ∧ (∀ i, W.frozen? ⟨b4, i, none⟩ = false) ∧ b4 < W.heap.size) ∧
    ((∀ i, W.cell? ⟨b5, i, none⟩ = c5[i]?) ∧ (∀ i, W.frozen? ⟨b5, i, none⟩ = false) ∧ b5 < W.heap.size) ∧
    ((∀ i, W.cell? ⟨b6, i, none⟩ = c6[i]?) ∧ (∀ i, W.frozen? ⟨b6, i, none⟩ = false) ∧ b6 < W.heap.size) ∧
    ((∀ i, W.cell? ⟨b7, i, none⟩ = c7[i]?) ∧ (∀ i, W.frozen? ⟨b7, i, none⟩ = false) ∧ b7 < W.heap.size) ∧
    ((∀ i, W.cell? ⟨b8, i, none⟩ = c8[i]?) ∧ (∀ i, W.frozen? ⟨b8, i, none⟩ = false) ∧ b8 < W.heap.size) ∧
    ((∀ i, W.cell? ⟨b9, i, none⟩ = c9[i]?) ∧ (∀ i, W.frozen? ⟨b9, i, none⟩ = false) ∧ b9 < W.heap.size) := ⟨h.r1, h.tail.r9⟩
end Go.Proofs.YtaaadejamjbcbaaGreatDoor

namespace Go.Proofs.YtaaadejamjbcbaaGreatDoor
open Go Go.RowKit

theorem cell_set2 {W : World} {b h : Nat} (hn : ¬ h = b) (u v : Value) (i : Nat) : ((W.setCell ⟨b, 0, none⟩ u).setCell ⟨b, 1, none⟩ v).drew.cell? ⟨h, i, none⟩ = W.cell? ⟨h, i, none⟩ :=
  World.cell?_of_block ((Below.heap_setCell (W.setCell ⟨b, 0, none⟩ u) ⟨b, 1, none⟩ v h hn).trans (Below.heap_setCell W ⟨b, 0, none⟩ u h hn))
def RetW (v : Value) (w : World) (e : Ending) (w' : World) : Prop := e = .returned v ∧ Below w.heap.size w w'
set_option maxHeartbeats 1000000 in
theorem mssmall_any (m : Msh) (a : MshA) (w : World) : Calls Tryz.prog 66 #[m.val a] w (RetW (.bool (smB m)) w) := by
  have X := (Own.start w).alloc (m.cells a) 25
  have hr := X.r1
  have E : Hid (smB m = (decide (m.ss.length ≤ 2000) && decide (m.fs.length ≤ 4000))) := hide rfl
  by_cases h1 : m.ss.length ≤ 2000 <;> by_cases h2 : m.fs.length ≤ 4000
  all_goals
    go_enter Tryz.func66, Tryz.ntmps66
    go_wp2
    go_ret
    exact ⟨ret_bool (by rw [E.out]; simp [h1, h2]; try omega), X.1⟩
set_option maxHeartbeats 1000000 in
theorem plvalid_any (p : Pnt) (w : World) : Calls Tryz.prog 86 #[p.val] w (RetW (.bool (inP p)) w) := by
  have X := (Own.start w).alloc #[.int .i64 p.x, .int .i64 p.y] 95
  have hr := X.r1
  have E : Hid (inP p = (decide (-16777216 ≤ p.x) && decide (p.x ≤ 16777216) && decide (-16777216 ≤ p.y) && decide (p.y ≤ 16777216))) := hide rfl
  have ways : decide (-16777216 ≤ p.x) = false ∨ (decide (-16777216 ≤ p.x) = true ∧ decide (p.x ≤ 16777216) = false) ∨ (decide (-16777216 ≤ p.x) = true ∧ decide (p.x ≤ 16777216) = true ∧ decide (-16777216 ≤ p.y) = false) ∨
      (decide (-16777216 ≤ p.x) = true ∧ decide (p.x ≤ 16777216) = true ∧ decide (-16777216 ≤ p.y) = true) := by
    cases decide (-16777216 ≤ p.x) <;> cases decide (p.x ≤ 16777216) <;> cases decide (-16777216 ≤ p.y) <;> simp
  rcases ways with q1 | ⟨q1, q2⟩ | ⟨q1, q2, q3⟩ | ⟨q1, q2, q3⟩
  all_goals
    go_enter Tryz.func86, Tryz.ntmps86
    go_wp2
    go_ret
    exact ⟨ret_bool (by rw [E.out]; simp [*]), X.1⟩
set_option maxHeartbeats 1000000 in
theorem msright_any (s : Spt) (w : World) : Calls Tryz.prog 67 #[s.val] w (RetW (.bool (okS s)) w) := by
  have X := (Own.start w).alloc #[.int .i64 s.x, .int .i64 s.y, .int .i64 s.z] 62
  have hr := X.r1
  have PV := hide (fun W => plvalid_any ⟨s.x, s.y⟩ W)
  have E : Hid (okS s = (inP ⟨s.x, s.y⟩ && decide (-4194304 ≤ s.z) && decide (s.z ≤ 4194304))) := hide rfl
  generalize inP ⟨s.x, s.y⟩ = b at *
  have ways : b = false ∨ (b = true ∧ decide (-4194304 ≤ s.z) = false) ∨ (b = true ∧ decide (-4194304 ≤ s.z) = true) := by
    cases b <;> cases decide (-4194304 ≤ s.z) <;> simp
  rcases ways with rfl | ⟨rfl, q2⟩ | ⟨rfl, q2⟩
  all_goals
    go_enter Tryz.func67, Tryz.ntmps67
    go_wp2_with fail
    refine (PV.out _).mono ?_
    rintro e w1 ⟨rfl, hb⟩
    replace X := X.to hb
    clear hr hb
    have hr := X.r1
    go_wp2
    go_ret
    exact ⟨ret_bool (by rw [E.out]; simp [*]), X.1⟩
set_option maxRecDepth 100000 in
set_option maxHeartbeats 2000000 in
theorem mspoint_any (m : Msh) (a : MshA) (i : Int) (w : World) (hm : MshSl w m a) (h0 : 0 ≤ i) (h1 : i < m.ss.length) : Calls Tryz.prog 68 #[m.val a, .int .i64 i] w (RetW (spA m.ss i).pt.val w) := by
  obtain ⟨k, rfl⟩ : ∃ k : Nat, i = (k : Int) := ⟨i.toNat, by omega⟩
  have hk : k < m.ss.length := by omega
  obtain ⟨A1, c1, A2, c2⟩ := a
  have hlen : m.ss.length ≤ 9223372036854775807 := hm.1.1.1
  obtain ⟨b, off, e, hbl, hat⟩ := hm.1.2 (by omega)
  have e' : A1 = some ⟨b, off, none⟩ := e
  subst e'
  obtain ⟨c0, d0, _⟩ := hat k hk
  have eS : spA m.ss (k : Int) = m.ss[k] := by simp [spA, hk]
  rw [eS]
  have X := ((Own.start w).alloc #[.slice (some ⟨b, off, none⟩) m.ss.length c1, .slice A2 m.fs.length c2] 25).alloc #[.int .i64 0, .int .i64 0] 95
  rw [World.size_alloc] at X
  have hr := X.r2
  have XB := hide X.1
  have g0 : (0 : Int) ≤ (k : Int) := by omega
  have g1 : (k : Int) < (m.ss.length : Int) := by omega
  have n1 : ¬ (w.heap.size = w.heap.size + 1) := by omega
  have n2 : ¬ (b = w.heap.size + 1) := by omega
  have n3 : ¬ (b = w.heap.size) := by omega
  clear hat X hm eS
  generalize m.ss[k] = s at *
  show Calls _ _ _ _ (RetW (.agg #[.int .i64 s.x, .int .i64 s.y]) w)
  go_enter Tryz.func68, Tryz.ntmps68
  go_wp2
  go_region_held3 (fun w' => w'.cell? ⟨w.heap.size, 0, none⟩ = some (.slice (some ⟨b, off, none⟩) m.ss.length c1) ∧ w'.cell? ⟨b, off + k * 3, none⟩ = some (.int .i64 s.x) ∧ w'.cell? ⟨b, off + k * 3 + 1, none⟩ = some (.int .i64 s.y)) (go_keep) (fail)
  go_wp2
  exact bodyPost_ret (v := .agg #[.int .i64 s.x, .int .i64 s.y]) (by simp [results, Tryz.results68, go_sem]) rfl ⟨rfl, by have HX := XB.out; have hz := HX.size; go_grown⟩
set_option maxHeartbeats 1000000 in
theorem mscorners_any (f : Fce) (w : World) : Calls Tryz.prog 69 #[f.val] w (RetW (.agg #[.int .i64 f.a, .int .i64 f.b, .int .i64 f.c]) w) := by
  have X := ((Own.start w).alloc #[.int .i64 f.a, .int .i64 f.b, .int .i64 f.c, .int .i64 f.k] 65).alloc #[.int .i64 0, .int .i64 0, .int .i64 0] 125
  rw [World.size_alloc] at X
  have hr := X.r2
  have XB := hide X.1
  go_enter Tryz.func69, Tryz.ntmps69
  go_wp2
  exact bodyPost_ret (v := .agg #[.int .i64 f.a, .int .i64 f.b, .int .i64 f.c]) (by simp [results, Tryz.results69, go_sem]) rfl ⟨rfl, by have HX := XB.out; have hz := HX.size; go_grown⟩
set_option maxHeartbeats 1000000 in
theorem msturn_any (a b c : Pnt) (w : World) (ha : a.in) (hb : b.in) (hc : c.in) : Calls Tryz.prog 54 #[a.val, b.val, c.val] w (RetW (.int .i64 (trn a b c)) w) := by
  have X := (((Own.start w).alloc #[.int .i64 a.x, .int .i64 a.y] 95).alloc #[.int .i64 b.x, .int .i64 b.y] 95).alloc #[.int .i64 c.x, .int .i64 c.y] 95
  simp only [World.size_alloc] at X
  have hr := X.r3
  have XB := hide X.1
  obtain ⟨m1, m2⟩ := trn_bd ha hb hc
  obtain ⟨⟨a1, a2⟩, a3, a4⟩ := ha
  obtain ⟨⟨b1, b2⟩, b3, b4⟩ := hb
  obtain ⟨⟨c1, c2⟩, c3, c4⟩ := hc
  have E : Hid (trn a b c = (b.x - a.x) * (c.y - a.y) - (b.y - a.y) * (c.x - a.x)) := hide rfl
  generalize trn a b c = t at *
  have e1 := IntWalk.i64_in (b.x - a.x) (by omega)
  have e2 := IntWalk.i64_in (c.y - a.y) (by omega)
  have e3 := IntWalk.i64_in (b.y - a.y) (by omega)
  have e4 := IntWalk.i64_in (c.x - a.x) (by omega)
  obtain ⟨p, hp⟩ : ∃ p, p = (b.x - a.x) * (c.y - a.y) := ⟨_, rfl⟩
  obtain ⟨q, hq⟩ : ∃ q, q = (b.y - a.y) * (c.x - a.x) := ⟨_, rfl⟩
  rw [← hp, ← hq] at E
  rw [← hp] at m1
  rw [← hq] at m2
  have w1 : IntKind.i64.wrap ((b.x - a.x) * (c.y - a.y)) = p := by rw [← hp]; exact IntWalk.i64_in _ (by omega)
  have w2 : IntKind.i64.wrap ((b.y - a.y) * (c.x - a.x)) = q := by rw [← hq]; exact IntWalk.i64_in _ (by omega)
  have w3 := IntWalk.i64_in (p - q) (by omega)
  clear hp hq X
  go_enter Tryz.func54, Tryz.ntmps54
  go_wp2
  go_ret
  exact ⟨by rw [E.out]; rfl, XB.out⟩
set_option maxRecDepth 100000 in
set_option maxHeartbeats 2000000 in
/-- a side: its number from 0 to 2 -/
theorem msside_any (f : Fce) (k : Nat) (w : World) (hk : k < 3) : Calls Tryz.prog 71 #[f.val, .int .i64 k] w (RetW (.agg #[.int .i64 (sdA f k).1, .int .i64 (sdA f k).2]) w) := by
  have X := ((Own.start w).alloc #[.int .i64 f.a, .int .i64 f.b, .int .i64 f.c, .int .i64 f.k] 65).alloc #[.int .i64 0, .int .i64 0] 127
  rw [World.size_alloc] at X
  have hr := X.r2
  have CN := hide (fun W => mscorners_any f W)
  obtain rfl | rfl | rfl : k = 0 ∨ k = 1 ∨ k = 2 := by omega
  · clear hk
    show Calls _ _ #[f.val, .int .i64 0] w (RetW (.agg #[.int .i64 f.a, .int .i64 f.b]) w)
    go_enter Tryz.func71, Tryz.ntmps71
    go_wp2_with fail
    refine (CN.out _).mono ?_
    rintro e w1 ⟨rfl, hb⟩
    have n0 : w.heap.size + 1 < w1.heap.size := by have hz := hb.size; simp at hz; omega
    replace X := (X.to hb).alloc #[.int .i64 f.a, .int .i64 f.b, .int .i64 f.c] 125
    clear hr hb
    have XB := hide X.1
    have n1 : ¬ (w1.heap.size = w.heap.size + 1) := by omega
    have s1 : IntKind.i64.wrap 1 = 1 := by decide
    have s2 : (1 : Int).tmod 3 = 1 := by decide
    go_wp2
    generalize w1.alloc (.cells #[.int .i64 f.a, .int .i64 f.b, .int .i64 f.c] 125) = W at *
    have hr := X.r3
    have KP : ∀ u v : Value, ((W.setCell ⟨w.heap.size + 1, 0, none⟩ u).setCell ⟨w.heap.size + 1, 1, none⟩ v).drew.cell? ⟨w1.heap.size, 0, none⟩ = some (.int .i64 f.a) ∧ ((W.setCell ⟨w.heap.size + 1, 0, none⟩ u).setCell ⟨w.heap.size + 1, 1, none⟩ v).drew.cell? ⟨w1.heap.size, 1, none⟩ = some (.int .i64 f.b) ∧
        ((W.setCell ⟨w.heap.size + 1, 0, none⟩ u).setCell ⟨w.heap.size + 1, 1, none⟩ v).drew.cell? ⟨w1.heap.size, 2, none⟩ = some (.int .i64 f.c) := fun u v => ⟨(cell_set2 n1 _ _ _).trans (hr.1.1 0), (cell_set2 n1 _ _ _).trans (hr.1.1 1), (cell_set2 n1 _ _ _).trans (hr.1.1 2)⟩
    clear X
    go_region_held3 (fun w' => w'.cell? ⟨w1.heap.size, 0, none⟩ = some (.int .i64 f.a) ∧ w'.cell? ⟨w1.heap.size, 1, none⟩ = some (.int .i64 f.b) ∧ w'.cell? ⟨w1.heap.size, 2, none⟩ = some (.int .i64 f.c)) (first | go_keep | exact KP _ _) (fail)
    go_wp2
    exact bodyPost_ret (v := .agg #[.int .i64 f.a, .int .i64 f.b]) (by simp [results, Tryz.results71, hr, go_sem]) rfl ⟨rfl, by have HX := XB.out; have hz := HX.size; go_grown⟩
  · clear hk
    show Calls _ _ #[f.val, .int .i64 1] w (RetW (.agg #[.int .i64 f.b, .int .i64 f.c]) w)
    go_enter Tryz.func71, Tryz.ntmps71
    go_wp2_with fail
    refine (CN.out _).mono ?_
    rintro e w1 ⟨rfl, hb⟩
    have n0 : w.heap.size + 1 < w1.heap.size := by have hz := hb.size; simp at hz; omega
    replace X := (X.to hb).alloc #[.int .i64 f.a, .int .i64 f.b, .int .i64 f.c] 125
    clear hr hb
    have XB := hide X.1
    have n1 : ¬ (w1.heap.size = w.heap.size + 1) := by omega
    have s1 : IntKind.i64.wrap 2 = 2 := by decide
    have s2 : (2 : Int).tmod 3 = 2 := by decide
    go_wp2
    generalize w1.alloc (.cells #[.int .i64 f.a, .int .i64 f.b, .int .i64 f.c] 125) = W at *
    have hr := X.r3
    have KP : ∀ u v : Value, ((W.setCell ⟨w.heap.size + 1, 0, none⟩ u).setCell ⟨w.heap.size + 1, 1, none⟩ v).drew.cell? ⟨w1.heap.size, 0, none⟩ = some (.int .i64 f.a) ∧ ((W.setCell ⟨w.heap.size + 1, 0, none⟩ u).setCell ⟨w.heap.size + 1, 1, none⟩ v).drew.cell? ⟨w1.heap.size, 1, none⟩ = some (.int .i64 f.b) ∧
        ((W.setCell ⟨w.heap.size + 1, 0, none⟩ u).setCell ⟨w.heap.size + 1, 1, none⟩ v).drew.cell? ⟨w1.heap.size, 2, none⟩ = some (.int .i64 f.c) := fun u v => ⟨(cell_set2 n1 _ _ _).trans (hr.1.1 0), (cell_set2 n1 _ _ _).trans (hr.1.1 1), (cell_set2 n1 _ _ _).trans (hr.1.1 2)⟩
    clear X
    go_region_held3 (fun w' => w'.cell? ⟨w1.heap.size, 0, none⟩ = some (.int .i64 f.a) ∧ w'.cell? ⟨w1.heap.size, 1, none⟩ = some (.int .i64 f.b) ∧ w'.cell? ⟨w1.heap.size, 2, none⟩ = some (.int .i64 f.c)) (first | go_keep | exact KP _ _) (fail)
    go_wp2
    exact bodyPost_ret (v := .agg #[.int .i64 f.b, .int .i64 f.c]) (by simp [results, Tryz.results71, hr, go_sem]) rfl ⟨rfl, by have HX := XB.out; have hz := HX.size; go_grown⟩
  · clear hk
    show Calls _ _ #[f.val, .int .i64 2] w (RetW (.agg #[.int .i64 f.c, .int .i64 f.a]) w)
    go_enter Tryz.func71, Tryz.ntmps71
    go_wp2_with fail
    refine (CN.out _).mono ?_
    rintro e w1 ⟨rfl, hb⟩
    have n0 : w.heap.size + 1 < w1.heap.size := by have hz := hb.size; simp at hz; omega
    replace X := (X.to hb).alloc #[.int .i64 f.a, .int .i64 f.b, .int .i64 f.c] 125
    clear hr hb
    have XB := hide X.1
    have n1 : ¬ (w1.heap.size = w.heap.size + 1) := by omega
    have s1 : IntKind.i64.wrap 3 = 3 := by decide
    have s2 : (3 : Int).tmod 3 = 0 := by decide
    go_wp2
    generalize w1.alloc (.cells #[.int .i64 f.a, .int .i64 f.b, .int .i64 f.c] 125) = W at *
    have hr := X.r3
    have KP : ∀ u v : Value, ((W.setCell ⟨w.heap.size + 1, 0, none⟩ u).setCell ⟨w.heap.size + 1, 1, none⟩ v).drew.cell? ⟨w1.heap.size, 0, none⟩ = some (.int .i64 f.a) ∧ ((W.setCell ⟨w.heap.size + 1, 0, none⟩ u).setCell ⟨w.heap.size + 1, 1, none⟩ v).drew.cell? ⟨w1.heap.size, 1, none⟩ = some (.int .i64 f.b) ∧
        ((W.setCell ⟨w.heap.size + 1, 0, none⟩ u).setCell ⟨w.heap.size + 1, 1, none⟩ v).drew.cell? ⟨w1.heap.size, 2, none⟩ = some (.int .i64 f.c) := fun u v => ⟨(cell_set2 n1 _ _ _).trans (hr.1.1 0), (cell_set2 n1 _ _ _).trans (hr.1.1 1), (cell_set2 n1 _ _ _).trans (hr.1.1 2)⟩
    clear X
    go_region_held3 (fun w' => w'.cell? ⟨w1.heap.size, 0, none⟩ = some (.int .i64 f.a) ∧ w'.cell? ⟨w1.heap.size, 1, none⟩ = some (.int .i64 f.b) ∧ w'.cell? ⟨w1.heap.size, 2, none⟩ = some (.int .i64 f.c)) (first | go_keep | exact KP _ _) (fail)
    go_wp2
    exact bodyPost_ret (v := .agg #[.int .i64 f.c, .int .i64 f.a]) (by simp [results, Tryz.results71, hr, go_sem]) rfl ⟨rfl, by have HX := XB.out; have hz := HX.size; go_grown⟩
end Go.Proofs.YtaaadejamjbcbaaGreatDoor

namespace Go.Proofs.YtaaadejamjbcbaaGreatDoor
open Go Go.RowKit

theorem below_go {a w w' : World} (h : Below a.heap.size a w) (k : Below w.heap.size w w') : Below a.heap.size a w' := below_via h h.size k
set_option maxRecDepth 100000 in
set_option maxHeartbeats 4000000 in
theorem mstri_any (m : Msh) (a : MshA) (f : Fce) (w : World) (hm : MshSl w m a) (ha : 0 ≤ f.a ∧ f.a < m.ss.length) (hb : 0 ≤ f.b ∧ f.b < m.ss.length) (hc : 0 ≤ f.c ∧ f.c < m.ss.length) :
    Calls Tryz.prog 53 #[m.val a, f.val] w (RetW (.agg (triA m.ss f).cells.toArray) w) := by
  have X := (((Own.start w).alloc (m.cells a) 25).alloc #[.int .i64 f.a, .int .i64 f.b, .int .i64 f.c, .int .i64 f.k] 65).alloc #[.int .i64 0, .int .i64 0, .int .i64 0, .int .i64 0, .int .i64 0, .int .i64 0] 102
  simp only [World.size_alloc] at X
  have HM := hide hm
  obtain ⟨A1, c1, A2, c2⟩ := a
  have PA := hide (fun W h => mspoint_any m ⟨A1, c1, A2, c2⟩ f.a W h ha.1 ha.2)
  have PB := hide (fun W h => mspoint_any m ⟨A1, c1, A2, c2⟩ f.b W h hb.1 hb.2)
  have PC := hide (fun W h => mspoint_any m ⟨A1, c1, A2, c2⟩ f.c W h hc.1 hc.2)
  have et : Hid ((triA m.ss f).cells = [.int .i64 (spA m.ss f.a).pt.x, .int .i64 (spA m.ss f.a).pt.y, .int .i64 (spA m.ss f.b).pt.x, .int .i64 (spA m.ss f.b).pt.y, .int .i64 (spA m.ss f.c).pt.x, .int .i64 (spA m.ss f.c).pt.y]) := hide rfl
  generalize (triA m.ss f).cells = tc at *
  generalize (spA m.ss f.a).pt = p at *
  generalize (spA m.ss f.b).pt = q at *
  generalize (spA m.ss f.c).pt = r at *
  unfold RetW at PA PB PC
  clear hm ha hb hc
  go_enter Tryz.func53, Tryz.ntmps53
  go_wp2
  generalize (((w.alloc (.cells #[.slice A1 m.ss.length c1, .slice A2 m.fs.length c2] 25)).alloc (.cells #[.int .i64 f.a, .int .i64 f.b, .int .i64 f.c, .int .i64 f.k] 65)).alloc (.cells #[.int .i64 0, .int .i64 0, .int .i64 0, .int .i64 0, .int .i64 0, .int .i64 0] 102)) = W at *
  have hr := X.r3
  have HX := hide X
  have HMW := hide (fun W' (h : Below W.heap.size W W') => HM.out.below (below_via HX.out.1 HX.out.1.size h))
  have KC := hide (fun W' (h : Below W.heap.size W W') => And.intro ((h.cell (p := ⟨w.heap.size, 0, none⟩) hr.2.2.2.2).trans (hr.2.2.1 0)) (And.intro ((h.cell (p := ⟨w.heap.size, 1, none⟩) hr.2.2.2.2).trans (hr.2.2.1 1))
    (And.intro ((h.cell (p := ⟨w.heap.size + 1, 0, none⟩) hr.2.1.2.2).trans (hr.2.1.1 0)) (And.intro ((h.cell (p := ⟨w.heap.size + 1, 1, none⟩) hr.2.1.2.2).trans (hr.2.1.1 1)) ((h.cell (p := ⟨w.heap.size + 1, 2, none⟩) hr.2.1.2.2).trans (hr.2.1.1 2))))))
  clear X
  have n1 : ¬ (w.heap.size = w.heap.size + 1 + 1) := by omega
  have n2 : ¬ (w.heap.size + 1 + 1 = w.heap.size) := by omega
  go_region_held3 (fun w' => w'.cell? ⟨w.heap.size, 0, none⟩ = some (.slice A1 m.ss.length c1) ∧ w'.cell? ⟨w.heap.size, 1, none⟩ = some (.slice A2 m.fs.length c2) ∧ w'.cell? ⟨w.heap.size + 1, 0, none⟩ = some (.int .i64 f.a) ∧ w'.cell? ⟨w.heap.size + 1, 1, none⟩ = some (.int .i64 f.b) ∧ w'.cell? ⟨w.heap.size + 1, 2, none⟩ = some (.int .i64 f.c)) (go_keep)
    (first
      | (go_at_call 68; (first | (with_reducible refine Calls.mono (PA.out _ (HMW.out _ (by go_grown))) ?_) | (with_reducible refine Calls.mono (PB.out _ (HMW.out _ (by go_grown))) ?_) | (with_reducible refine Calls.mono (PC.out _ (HMW.out _ (by go_grown))) ?_)); (rintro e w1 ⟨rfl, hb⟩); have hw := below_go (show Below W.heap.size W _ from by go_grown) hb; have hr2 := (HX.out.to hw).r3; obtain ⟨q1, q2, q3, q4, q5⟩ := KC.out _ hw))
  all_goals
    have XB := hide (HX.out.to hw).1
    go_wp2
    exact bodyPost_ret (v := .agg #[.int .i64 p.x, .int .i64 p.y, .int .i64 q.x, .int .i64 q.y, .int .i64 r.x, .int .i64 r.y]) (by simp [results, Tryz.results53, hr2, go_sem]) rfl ⟨by rw [et.out], by have HX := XB.out; have hz := HX.size; go_grown⟩
end Go.Proofs.YtaaadejamjbcbaaGreatDoor
