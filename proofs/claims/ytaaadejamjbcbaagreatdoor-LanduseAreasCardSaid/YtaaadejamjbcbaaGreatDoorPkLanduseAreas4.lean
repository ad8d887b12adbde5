/- Parts of one proof, joined: The program's twice of a face (landuse), the functions that Areas hands on, slices.ContainsFunc at faces: what each returns; nothing that was there is turned (printed by gen_arf.py). The last step of a law's row, once for all laws: where the call answers true and nothing that was there has turned, the row's outcome is reached. Maps whose keys are points or pairs of integers and whose elements are bools, that the call made: look-up and store. The program's separates: whether a side of a triangle has another triangle on its right; nothing that was there is turned (printed by gen_sep.py). -/
import Derived.Test.YtaaadejamjbcbaaGreatDoorPkLanduseAreas2
import Derived.Test.YtaaadejamjbcbaaGreatDoorPkLanduseAreas3
import Derived.Deep.DeepCutAuto
import Derived.Maps.OwnOps
import Derived.DeepKeys5
import Derived.WideKeyPair
namespace Go.Proofs.YtaaadejamjbcbaaGreatDoor
open Go Go.RowKit

theorem Own.perm {w W : World} {L L' : List (Nat × TypeId × Array Value)} (h : Own w W L) (k : ∀ x ∈ L', x ∈ L) : Own w W L' := ⟨h.1, fun x hx => h.2 x (k x hx)⟩
theorem own_three {w W : World} {L : List (Nat × TypeId × Array Value)} {a b c : Array Value} {s t u : TypeId} (h : Own w W L) : Own w (((W.alloc (.cells a s)).alloc (.cells b t)).alloc (.cells c u)).drew ((W.heap.size, s, a) :: (W.heap.size + 1, t, b) :: (W.heap.size + 1 + 1, u, c) :: L) := by
  have Z := (((h.alloc a s).alloc b t).alloc c u).drew
  simp only [World.size_alloc] at Z
  exact Z.perm (by intro x hx; simp only [List.mem_cons] at hx ⊢; rcases hx with h | h | h | h <;> simp [h])
set_option maxRecDepth 100000 in
set_option maxHeartbeats 4000000 in
theorem lutw_any (m : Msh) (a : MshA) (fa fb fc : Nat) (fk : Int) (w : World) (hm : MshSl w m a) (ha : fa < m.ss.length) (hb : fb < m.ss.length) (hc : fc < m.ss.length) (hin : (triA m.ss ⟨fa, fb, fc, fk⟩).in) :
    Calls Tryz.prog 33 #[m.val a, .agg #[.int .i64 fa, .int .i64 fb, .int .i64 fc, .int .i64 fk]] w (RetW (.int .i64 (twA m.ss ⟨fa, fb, fc, fk⟩)) w) := by
  obtain ⟨ss, fs⟩ := m
  obtain ⟨A1, c1, A2, c2⟩ := a
  have ha' : fa < ss.length := ha
  have hb' : fb < ss.length := hb
  have hc' : fc < ss.length := hc
  have hlen : ss.length ≤ 9223372036854775807 := hm.1.1.1
  obtain ⟨b, off, e, hbl, hat⟩ := hm.1.2 (by show 0 < ss.length; omega)
  obtain rfl : A1 = some ⟨b, off, none⟩ := e
  have X := ((Own.start w).alloc #[.slice (some ⟨b, off, none⟩) ss.length c1, .slice A2 fs.length c2] 25).alloc #[.int .i64 fa, .int .i64 fb, .int .i64 fc, .int .i64 fk] 65
  rw [World.size_alloc] at X
  have ET : Hid (triA ss ⟨fa, fb, fc, fk⟩ = ⟨(ss[fa]).pt, (ss[fb]).pt, (ss[fc]).pt⟩) := hide (by simp [triA, spA, ha', hb', hc'])
  have KC := hide (fun W' (h : Below w.heap.size w W') => (⟨(h.cell (p := ⟨b, _, none⟩) hbl).trans (hat fa ha').1, (h.cell (p := ⟨b, _, none⟩) hbl).trans (hat fa ha').2.1, (h.cell (p := ⟨b, _, none⟩) hbl).trans (hat fa ha').2.2, (h.cell (p := ⟨b, _, none⟩) hbl).trans (hat fb hb').1, (h.cell (p := ⟨b, _, none⟩) hbl).trans (hat fb hb').2.1, (h.cell (p := ⟨b, _, none⟩) hbl).trans (hat fb hb').2.2, (h.cell (p := ⟨b, _, none⟩) hbl).trans (hat fc hc').1, (h.cell (p := ⟨b, _, none⟩) hbl).trans (hat fc hc').2.1, (h.cell (p := ⟨b, _, none⟩) hbl).trans (hat fc hc').2.2⟩ : W'.cell? ⟨b, off + fa * 3, none⟩ = some (.int .i64 (ss[fa]).x) ∧ W'.cell? ⟨b, off + fa * 3 + 1, none⟩ = some (.int .i64 (ss[fa]).y) ∧ W'.cell? ⟨b, off + fa * 3 + 2, none⟩ = some (.int .i64 (ss[fa]).z) ∧ W'.cell? ⟨b, off + fb * 3, none⟩ = some (.int .i64 (ss[fb]).x) ∧ W'.cell? ⟨b, off + fb * 3 + 1, none⟩ = some (.int .i64 (ss[fb]).y) ∧ W'.cell? ⟨b, off + fb * 3 + 2, none⟩ = some (.int .i64 (ss[fb]).z) ∧ W'.cell? ⟨b, off + fc * 3, none⟩ = some (.int .i64 (ss[fc]).x) ∧ W'.cell? ⟨b, off + fc * 3 + 1, none⟩ = some (.int .i64 (ss[fc]).y) ∧ W'.cell? ⟨b, off + fc * 3 + 2, none⟩ = some (.int .i64 (ss[fc]).z)))
  have IN : (⟨(ss[fa]).pt, (ss[fb]).pt, (ss[fc]).pt⟩ : Tri).in := by rw [← ET.out]; exact hin
  have ga : (fa : Int) < (ss.length : Int) := by omega
  have gb : (fb : Int) < (ss.length : Int) := by omega
  have gc : (fc : Int) < (ss.length : Int) := by omega
  have za : (0 : Int) ≤ (fa : Int) := by omega
  have zb : (0 : Int) ≤ (fb : Int) := by omega
  have zc : (0 : Int) ≤ (fc : Int) := by omega
  show Calls _ _ #[.agg #[.slice (some ⟨b, off, none⟩) ss.length c1, .slice A2 fs.length c2], _] w (RetW (.int .i64 (trn (triA ss ⟨fa, fb, fc, fk⟩).p (triA ss ⟨fa, fb, fc, fk⟩).q (triA ss ⟨fa, fb, fc, fk⟩).r)) w)
  rw [ET.out]
  show Calls _ _ _ w (RetW (.int .i64 (trn (ss[fa]).pt (ss[fb]).pt (ss[fc]).pt)) w)
  generalize ss[fa] = sa at *
  generalize ss[fb] = sb at *
  generalize ss[fc] = sc at *
  clear hat hm ET ha hb hc hin
  go_enter Tryz.func33, Tryz.ntmps33
  go_upto_region 1 with (fail)
  generalize (w.alloc (.cells #[.slice (some ⟨b, off, none⟩) ss.length c1, .slice A2 fs.length c2] 25)).alloc (.cells #[.int .i64 fa, .int .i64 fb, .int .i64 fc, .int .i64 fk] 65) = W at *
  have hr := X.r2
  have HX := hide X
  obtain ⟨q0, q1, q2, q3, q4, q5, q6, q7, q8⟩ := KC.out _ X.1
  have nb : b < W.heap.size := Nat.lt_of_lt_of_le hbl X.1.size
  have n0 : w.heap.size + 1 < W.heap.size := hr.1.2.2
  have KS := hide (fun W' (h : Below W.heap.size W W') => (⟨(h.cell (p := ⟨w.heap.size, 0, none⟩) hr.2.2.2).trans (hr.2.1 0), (h.cell (p := ⟨w.heap.size + 1, 0, none⟩) hr.1.2.2).trans (hr.1.1 0), (h.cell (p := ⟨w.heap.size + 1, 1, none⟩) hr.1.2.2).trans (hr.1.1 1), (h.cell (p := ⟨w.heap.size + 1, 2, none⟩) hr.1.2.2).trans (hr.1.1 2), (h.cell (p := ⟨b, _, none⟩) nb).trans q0, (h.cell (p := ⟨b, _, none⟩) nb).trans q1, (h.cell (p := ⟨b, _, none⟩) nb).trans q2, (h.cell (p := ⟨b, _, none⟩) nb).trans q3, (h.cell (p := ⟨b, _, none⟩) nb).trans q4, (h.cell (p := ⟨b, _, none⟩) nb).trans q5, (h.cell (p := ⟨b, _, none⟩) nb).trans q6, (h.cell (p := ⟨b, _, none⟩) nb).trans q7, (h.cell (p := ⟨b, _, none⟩) nb).trans q8⟩ : W'.cell? ⟨w.heap.size, 0, none⟩ = some (.slice (some ⟨b, off, none⟩) ss.length c1) ∧ W'.cell? ⟨w.heap.size + 1, 0, none⟩ = some (.int .i64 fa) ∧ W'.cell? ⟨w.heap.size + 1, 1, none⟩ = some (.int .i64 fb) ∧ W'.cell? ⟨w.heap.size + 1, 2, none⟩ = some (.int .i64 fc) ∧ W'.cell? ⟨b, off + fa * 3, none⟩ = some (.int .i64 sa.x) ∧ W'.cell? ⟨b, off + fa * 3 + 1, none⟩ = some (.int .i64 sa.y) ∧ W'.cell? ⟨b, off + fa * 3 + 2, none⟩ = some (.int .i64 sa.z) ∧ W'.cell? ⟨b, off + fb * 3, none⟩ = some (.int .i64 sb.x) ∧ W'.cell? ⟨b, off + fb * 3 + 1, none⟩ = some (.int .i64 sb.y) ∧ W'.cell? ⟨b, off + fb * 3 + 2, none⟩ = some (.int .i64 sb.z) ∧ W'.cell? ⟨b, off + fc * 3, none⟩ = some (.int .i64 sc.x) ∧ W'.cell? ⟨b, off + fc * 3 + 1, none⟩ = some (.int .i64 sc.y) ∧ W'.cell? ⟨b, off + fc * 3 + 2, none⟩ = some (.int .i64 sc.z)))
  have n1 : ¬ b = W.heap.size := by omega
  have n2 : ¬ b = W.heap.size + 1 := by omega
  have n3 : ¬ b = W.heap.size + 1 + 1 := by omega
  have n4 : ¬ w.heap.size = W.heap.size := by omega
  have n5 : ¬ w.heap.size = W.heap.size + 1 := by omega
  have n6 : ¬ w.heap.size = W.heap.size + 1 + 1 := by omega
  have n7 : ¬ w.heap.size + 1 = W.heap.size := by omega
  have n8 : ¬ w.heap.size + 1 = W.heap.size + 1 := by omega
  have n9 : ¬ w.heap.size + 1 = W.heap.size + 1 + 1 := by omega
  clear X
  go_cut [5, 6, 7] (fun v5 v6 v7 wx => ∃ b5 b6 b7 : Nat, v5 = .pointer (some ⟨b5, 0, none⟩) ∧ v6 = .pointer (some ⟨b6, 0, none⟩) ∧ v7 = .pointer (some ⟨b7, 0, none⟩) ∧ Hid (Own w wx [(b5, 62, #[.int .i64 sa.x, .int .i64 sa.y, .int .i64 sa.z]), (b6, 62, #[.int .i64 sb.x, .int .i64 sb.y, .int .i64 sb.z]), (b7, 62, #[.int .i64 sc.x, .int .i64 sc.y, .int .i64 sc.z])]))
  case first =>
    go_region_held3 (fun w' => w'.cell? ⟨w.heap.size, 0, none⟩ = some (.slice (some ⟨b, off, none⟩) ss.length c1) ∧ w'.cell? ⟨w.heap.size + 1, 0, none⟩ = some (.int .i64 fa) ∧ w'.cell? ⟨w.heap.size + 1, 1, none⟩ = some (.int .i64 fb) ∧ w'.cell? ⟨w.heap.size + 1, 2, none⟩ = some (.int .i64 fc) ∧ w'.cell? ⟨b, off + fa * 3, none⟩ = some (.int .i64 sa.x) ∧ w'.cell? ⟨b, off + fa * 3 + 1, none⟩ = some (.int .i64 sa.y) ∧ w'.cell? ⟨b, off + fa * 3 + 2, none⟩ = some (.int .i64 sa.z) ∧ w'.cell? ⟨b, off + fb * 3, none⟩ = some (.int .i64 sb.x) ∧ w'.cell? ⟨b, off + fb * 3 + 1, none⟩ = some (.int .i64 sb.y) ∧ w'.cell? ⟨b, off + fb * 3 + 2, none⟩ = some (.int .i64 sb.z) ∧ w'.cell? ⟨b, off + fc * 3, none⟩ = some (.int .i64 sc.x) ∧ w'.cell? ⟨b, off + fc * 3 + 1, none⟩ = some (.int .i64 sc.y) ∧ w'.cell? ⟨b, off + fc * 3 + 2, none⟩ = some (.int .i64 sc.z)) (first | exact KS.out _ (by go_grown) | go_keep) (fail)
    all_goals
      go_wp2_with fail
      go_meet
      exact ⟨_, _, _, rfl, rfl, rfl, hide ((own_three HX.out).perm (by intro x hx; simp only [List.mem_cons, List.not_mem_nil, or_false] at hx ⊢; rcases hx with h | h | h <;> simp [h]))⟩
  case rest =>
    obtain ⟨b5, b6, b7, rfl, rfl, rfl, HO⟩ := hcut
    have hr := HO.out.r3
    have XB := hide HO.out.1
    obtain ⟨m1, m2⟩ := trn_bd IN.1 IN.2.1 IN.2.2
    obtain ⟨⟨⟨a1, a2⟩, a3, a4⟩, ⟨⟨b1, b2⟩, b3, b4⟩, ⟨⟨k1, k2⟩, k3, k4⟩⟩ := IN
    clear HX KC q0 q1 q2 q3 q4 q5 q6 q7 q8 n0 n1 n2 n3 n4 n5 n6 n7 n8 n9
    have m1' : -1125899906842624 ≤ (sb.x - sa.x) * (sc.y - sa.y) ∧ (sb.x - sa.x) * (sc.y - sa.y) ≤ 1125899906842624 := m1
    have m2' : -1125899906842624 ≤ (sb.y - sa.y) * (sc.x - sa.x) ∧ (sb.y - sa.y) * (sc.x - sa.x) ≤ 1125899906842624 := m2
    have a1' : -16777216 ≤ sa.x := a1
    have a2' : sa.x ≤ 16777216 := a2
    have a3' : -16777216 ≤ sa.y := a3
    have a4' : sa.y ≤ 16777216 := a4
    have b1' : -16777216 ≤ sb.x := b1
    have b2' : sb.x ≤ 16777216 := b2
    have b3' : -16777216 ≤ sb.y := b3
    have b4' : sb.y ≤ 16777216 := b4
    have k1' : -16777216 ≤ sc.x := k1
    have k2' : sc.x ≤ 16777216 := k2
    have k3' : -16777216 ≤ sc.y := k3
    have k4' : sc.y ≤ 16777216 := k4
    clear m1 m2 a1 a2 a3 a4 b1 b2 b3 b4 k1 k2 k3 k4
    have E : Hid (trn sa.pt sb.pt sc.pt = (sb.x - sa.x) * (sc.y - sa.y) - (sb.y - sa.y) * (sc.x - sa.x)) := hide rfl
    generalize trn sa.pt sb.pt sc.pt = t at *
    have e1 := IntWalk.i64_in (sb.x - sa.x) (by omega)
    have e2 := IntWalk.i64_in (sc.y - sa.y) (by omega)
    have e3 := IntWalk.i64_in (sb.y - sa.y) (by omega)
    have e4 := IntWalk.i64_in (sc.x - sa.x) (by omega)
    obtain ⟨p, hp⟩ : ∃ p, p = (sb.x - sa.x) * (sc.y - sa.y) := ⟨_, rfl⟩
    obtain ⟨q, hq⟩ : ∃ q, q = (sb.y - sa.y) * (sc.x - sa.x) := ⟨_, rfl⟩
    rw [← hp, ← hq] at E
    rw [← hp] at m1'
    rw [← hq] at m2'
    have w1 : IntKind.i64.wrap ((sb.x - sa.x) * (sc.y - sa.y)) = p := by rw [← hp]; exact IntWalk.i64_in _ (by omega)
    have w2 : IntKind.i64.wrap ((sb.y - sa.y) * (sc.x - sa.x)) = q := by rw [← hq]; exact IntWalk.i64_in _ (by omega)
    have w3 := IntWalk.i64_in (p - q) (by omega)
    clear hp hq
    go_wp2
    go_ret
    exact ⟨by rw [E.out]; rfl, XB.out⟩
set_option maxHeartbeats 1000000 in
theorem lubd_any (i : Int) (w : World) : Calls Tryz.prog 30 #[.int .i64 i] w fun e w' => e = .returned (.bool (bdI i)) ∧ w = w' := by
  have E : Hid (bdI i = (decide (i < -1) || decide (300 ≤ i))) := hide rfl
  by_cases h1 : i < -1
  · have q1 : decide (i < -1) = true := decide_eq_true h1
    go_enter Tryz.func30, Tryz.ntmps30
    go_wp2
    go_ret
    exact ⟨ret_bool (by rw [E.out, q1]; rfl), rfl⟩
  · have q1 : decide (i < -1) = false := decide_eq_false h1
    by_cases h2 : 300 ≤ i
    · have q2 : decide (300 ≤ i) = true := decide_eq_true h2
      go_enter Tryz.func30, Tryz.ntmps30
      go_wp2
      go_ret
      exact ⟨ret_bool (by rw [E.out, q1, q2]; rfl), rfl⟩
    · have q2 : decide (300 ≤ i) = false := decide_eq_false h2
      go_enter Tryz.func30, Tryz.ntmps30
      go_wp2
      go_ret
      exact ⟨ret_bool (by rw [E.out, q1, q2]; rfl), rfl⟩
set_option maxHeartbeats 1000000 in
theorem lucl_any (a b c k : Int) (n : Int) (bc : Nat) (w : World) (hB : w.cell? ⟨bc, 0, none⟩ = some (.int .i64 n)) (hb : bc < w.heap.size) : Calls Tryz.prog 32 #[.agg #[.int .i64 a, .int .i64 b, .int .i64 c, .int .i64 k], .pointer (some ⟨bc, 0, none⟩)] w (RetW (.bool (decide (n ≤ k))) w) := by
  have X := (Own.start w).alloc #[.int .i64 a, .int .i64 b, .int .i64 c, .int .i64 k] 65
  have hr := X.r1
  have hB' := (X.1.cell (p := ⟨bc, 0, none⟩) hb).trans hB
  have n1 : ¬ bc = w.heap.size := by omega
  go_enter Tryz.func32, Tryz.ntmps32
  go_wp2
  go_ret
  exact ⟨rfl, X.1⟩
def idxF (p : Fce → Bool) (l : List Fce) : Int := match l.findIdx? p with | some i => (i : Int) | none => -1
theorem idxF_no {p : Fce → Bool} {l : List Fce} (h : ∀ i (hi : i < l.length), p l[i] = false) : idxF p l = -1 := by
  have : l.findIdx? p = none := by
    rw [List.findIdx?_eq_none_iff]
    intro x hx
    obtain ⟨i, hi, rfl⟩ := List.mem_iff_getElem.1 hx
    exact h i hi
  simp [idxF, this]
theorem idxF_yes {p : Fce → Bool} {l : List Fce} {k : Nat} (hk : k < l.length) (h : ∀ i (hi : i < l.length), i < k → p l[i] = false) (hy : p l[k] = true) : idxF p l = k := by
  have : l.findIdx? p = some k := by
    rw [List.findIdx?_eq_some_iff_getElem]
    exact ⟨hk, hy, fun j hj => by rw [h j (by omega) hj]; simp⟩
  simp [idxF, this]
theorem any_idxF (p : Fce → Bool) (l : List Fce) : l.any p = decide (0 ≤ idxF p l) := by
  unfold idxF
  cases h : l.findIdx? p with
  | none =>
    rw [List.findIdx?_eq_none_iff] at h
    rw [Bool.eq_iff_iff]
    simp only [List.any_eq_true, decide_eq_true_eq]
    constructor
    · rintro ⟨x, hx, hp⟩
      rw [h x hx] at hp
      cases hp
    · intro h'
      omega
  | some i =>
    rw [List.findIdx?_eq_some_iff_getElem] at h
    obtain ⟨hi, hp, _⟩ := h
    rw [Bool.eq_iff_iff]
    simp only [List.any_eq_true, decide_eq_true_eq]
    exact ⟨fun _ => by omega, fun _ => ⟨l[i], List.getElem_mem hi, hp⟩⟩
set_option maxRecDepth 100000 in
set_option maxHeartbeats 2000000 in
theorem idxF_any (n : Int) (l : List Fce) (A : Option Addr) (cap bc : Nat) (w : World) (hl : FceSl w A l) (hB : w.cell? ⟨bc, 0, none⟩ = some (.int .i64 n)) (hb : bc < w.heap.size) :
    Calls Tryz.prog 52 #[.slice A l.length cap, .func (.func 32) #[] #[.pointer (some ⟨bc, 0, none⟩)]] w (RetW (.int .i64 (idxF (fun f => decide (n ≤ f.k)) l)) w) := by
  have hlen : l.length ≤ 9223372036854775807 := hl.1.1
  have H := hide hl
  have CK := hide (fun W (o : Fce) h h' => lucl_any o.a o.b o.c o.k n bc W h h')
  unfold RetW at CK
  have HB := hide hB
  clear hl hB
  go_enter Tryz.func52, Tryz.ntmps52
  go_wp2
  go_loopw [8] (fun v8 wr => ∃ k : Nat, k ≤ l.length ∧ v8 = .int .i64 k ∧ Hid (Below w.heap.size w wr) ∧ Hid (∀ i (hi : i < l.length), i < k → decide (n ≤ l[i].k) = false)) (fun v8 _ => l.length - (intOf v8).toNat)
  case atStart => exact ⟨0, Nat.zero_le _, rfl, hide (Below.refl _ _), hide (fun _ _ h => by omega)⟩
  case round =>
    obtain ⟨k, hk, rfl, HW, hno⟩ := hrel
    by_cases hlt : k < l.length
    · obtain ⟨b, off, rfl, hbl, hat⟩ := (H.out.below HW.out).2 (by omega)
      obtain ⟨c0, c1, c2, c3⟩ := hat k hlt
      have HBk := hide ((HW.out.cell (p := ⟨bc, 0, none⟩) hb).trans HB.out)
      have hbk := hide (Nat.lt_of_lt_of_le hb HW.out.size)
      have CKk := hide (CK.out _ l[k] HBk.out hbk.out)
      clear hat
      by_cases hs : decide (n ≤ l[k].k) = true
      · have E := hide (idxF_yes (p := fun f => decide (n ≤ f.k)) hlt (fun i hi hik => hno.out i hi hik) hs)
        rw [hs] at CKk
        clear hs
        generalize l[k] = o at *
        go_wp2_with fail
        refine CKk.out.mono ?_
        rintro e w' ⟨rfl, hb⟩
        go_wp2
        go_ret
        exact ⟨ret_int E.out.symm, below_via HW.out HW.out.size hb⟩
      · have hs : decide (n ≤ l[k].k) = false := by simpa using hs
        have hno2 := hide (fun i (hi : i < l.length) (hik : i < k + 1) => (show decide (n ≤ l[i].k) = false by
          by_cases e : i = k
          · subst e; exact hs
          · exact hno.out i hi (by omega)))
        rw [hs] at CKk
        clear hs
        generalize l[k] = o at *
        go_wp2_with fail
        refine CKk.out.mono ?_
        rintro e w' ⟨rfl, hb⟩
        have HW2 := hide (below_via HW.out HW.out.size hb)
        clear hb
        go_wp2
        go_roundw
        case rel => exact ⟨k + 1, by omega, by go_num, HW2, hno2⟩
        case measure => simp [intOf]; omega
    · go_wp2
      go_ret
      exact ⟨ret_int (idxF_no fun i hi => hno.out i hi (by omega)).symm, HW.out⟩
set_option maxHeartbeats 1000000 in
theorem contF_any (n : Int) (l : List Fce) (A : Option Addr) (cap bc : Nat) (w : World) (hl : FceSl w A l) (hB : w.cell? ⟨bc, 0, none⟩ = some (.int .i64 n)) (hb : bc < w.heap.size) :
    Calls Tryz.prog 31 #[.slice A l.length cap, .func (.func 32) #[] #[.pointer (some ⟨bc, 0, none⟩)]] w (RetW (.bool (l.any fun f => decide (n ≤ f.k))) w) := by
  have C := hide (idxF_any n l A cap bc w hl hB hb)
  have E := hide (any_idxF (fun f => decide (n ≤ f.k)) l)
  generalize idxF (fun f => decide (n ≤ f.k)) l = i at *
  unfold RetW at C
  clear hl hB hb
  go_enter Tryz.func31, Tryz.ntmps31
  go_wp2_with fail
  refine C.out.mono ?_
  rintro e w' ⟨rfl, hb⟩
  go_wp2
  go_ret
  exact ⟨ret_bool E.out.symm, hb⟩
end Go.Proofs.YtaaadejamjbcbaaGreatDoor

namespace Go.Proofs.YtaaadejamjbcbaaGreatDoor
open Go.RowKit Go.ChangeShapes Go.WideShapes Go.ChangeAt

theorem own : ownKnob Tryz.prog.godebug = none := by kernel_rfl
theorem laidOut : laidOutB Tryz.prog = true := by kernel_rfl
section
variable {H : Type} {enc : TypeId × Value → H} {P : Program}
theorem trodAll_stays (hl : laidOutB P = true) {W W' : World} {sp : Nat → Bool} (hb : Below W.heap.size W W') :
    ∀ (ts : List TypeId) (vs : List Value) (ds : List (DataW H)) (ps : List MemPlace), ts.all (fun t => P.readableRec t && decide (t < P.types.size)) = true →
      DataW.TrodAll enc P W 0 (fun _ => true) true ts vs ds ps → (∀ p ∈ ps, p.block < W.heap.size) → (∀ p ∈ ps, sp p.block = true) → DataW.TrodAll enc P W' 0 sp true ts vs ds ps
  | [], vs, ds, ps, _, h, _, _ => by obtain ⟨rfl, rfl, rfl⟩ := trodAll_nil h; exact trodAll_mk0
  | t :: ts, vs, ds, ps, hr, h, hlt, hsp => by
    obtain ⟨v, vs', d, ds', p, q, rfl, rfl, rfl, h1, h2⟩ := trodAll_cons h
    simp only [List.all_cons, Bool.and_eq_true, decide_eq_true_eq] at hr
    exact trodAll_cons_mk (WideElems.Trod_stays hl hr.1.1 hr.1.2 h1 (fun x hx => hb.same (hlt x (by simp [hx]))) (fun x hx => hsp x (by simp [hx])))
      (trodAll_stays hl hb ts vs' ds' q hr.2 h2 (fun x hx => hlt x (by simp [hx])) (fun x hx => hsp x (by simp [hx])))
theorem trodAll_length : ∀ {w : World} {base : Nat} {sp : Nat → Bool} {hd : Bool} (ts : List TypeId) (vs : List Value) (ds : List (DataW H)) (ps : List MemPlace), DataW.TrodAll enc P w base sp hd ts vs ds ps → ds.length = ts.length
  | _, _, _, _, [], vs, ds, ps, h => by obtain ⟨rfl, rfl, rfl⟩ := trodAll_nil h; rfl
  | _, _, _, _, t :: ts, vs, ds, ps, h => by
    obtain ⟨v, vs', d, ds', p, q, rfl, rfl, rfl, h1, h2⟩ := trodAll_cons h
    simp [trodAll_length ts vs' ds' q h2]
theorem law_post {fn : Func} {s : ChangeSpec} {W W' : World} {args : Array Value} {ds gs : List (DataW H)} {before : List MemPlace} (hl : laidOutB P = true)
    (hread : fn.params.toList.all (fun t => P.readableRec t && decide (t < P.types.size)) = true) (hv : s.vars = []) (tb : TypeId) (hres : fn.resultTypes = #[tb]) (htb : P.underlying tb = some .bool)
    (hspec : ∀ ds : List (DataW H), ds.length = fn.params.size → s.fn H (ds ++ []) = { results := [.lit (.bool true)], args := ds })
    (hW : DataW.Whole enc P fn.params.toList s.vars false W args.toList ds gs before) (hb : Below W.heap.size W W') : s.post enc P fn false true false false W args (.bool true) W' := by
  have hW' := hW
  obtain ⟨p, q, hA, hV, hpq, _, _⟩ := hW
  rw [hv] at hV
  obtain ⟨rfl, rfl⟩ := trodVars_none hV
  have hlen : ds.length = fn.params.size := by simpa using trodAll_length _ _ _ _ hA
  have e := hspec ds hlen
  simp only [List.append_nil] at hpq
  subst hpq
  refine post_of_below (pa := before) (pv := []) hW' ?_ ?_ ?_ (by simp) hb ?_
  · intro b sp hd
    rw [e, hres]
    exact trodAll_mk1 (shut_bool htb true)
  · intro sp hsp
    rw [e]
    exact trodAll_stays hl hb _ _ _ _ hread hA (fun x hx => hW'.lt x hx) hsp
  · intro sp _
    rw [hv, e]
    rfl
  · exact ok_one hres rfl (okWide_bool_mk htb true)
end
end Go.Proofs.YtaaadejamjbcbaaGreatDoor

namespace Go.Proofs.YtaaadejamjbcbaaGreatDoor
open Go Go.RowKit Go.WideMaps

theorem wf_i64 {n : Int} (h : i64 n) : (Lit.int .i64 n).wf = true := by
  unfold i64 at h
  simp [Lit.wf, IntKind.min, IntKind.max, IntKind.signed, IntKind.bits]
  omega
theorem pt_keyed : Maps.Keyed Tryz.prog 95 := Maps.Keyed.of_law (deep_law_gate laidOut (of_decide_eq_true (by kernel_rfl)) (of_decide_eq_true (by kernel_rfl)) (by kernel_rfl) (by kernel_rfl))
theorem sd_keyed : Maps.Keyed Tryz.prog 127 := Maps.Keyed.of_law (deep_law_gate laidOut (of_decide_eq_true (by kernel_rfl)) (of_decide_eq_true (by kernel_rfl)) (by kernel_rfl) (by kernel_rfl))
theorem types_pos : ∃ m, Tryz.prog.types.size = m + 1 := Nat.exists_eq_succ_of_ne_zero (fun e => by
  have : (Tryz.prog.types.size == 0) = false := by kernel_rfl
  rw [e] at this
  cases this)
theorem int_key (d : Nat) {n : Int} (h : i64 n) : Tryz.prog.keyLits (d + 1) 3 [.int .i64 n] = some [.int .i64 n] := by
  unfold Program.keyLits
  rw [Tryz.underlying3]
  simp [wf_i64 h]
theorem pt_key (p : Pnt) (hx : i64 p.x) (hy : i64 p.y) : keyOf Tryz.prog 95 p.val = some (.string (keyBytes [.int .i64 p.x, .int .i64 p.y])) := by
  have hkt : Tryz.prog.keyType 95 = true := by kernel_rfl
  have hc : Tryz.prog.cellsOf 95 = 2 := by kernel_rfl
  have hi : Tryz.prog.cellsOf 3 = 1 := by kernel_rfl
  obtain ⟨m, hm⟩ := types_pos
  unfold keyOf
  simp only [Tryz.underlying95]
  rw [if_pos (by simp [hkt, Value.formed, Tryz.underlying95, hc]), hm]
  obtain ⟨m', rfl⟩ : ∃ m', m = m' + 1 := Nat.exists_eq_succ_of_ne_zero (fun e => by
    have : (Tryz.prog.types.size == 1) = false := by kernel_rfl
    rw [hm, e] at this
    cases this)
  unfold Program.keyLits
  simp only [Tryz.underlying95, Value.cells]
  rw [if_pos (by rw [hc]; exact ⟨rfl, by kernel_rfl⟩)]
  have e1 := int_key (m' + 1) hx
  have e2 := int_key (m' + 1) hy
  simp [hi, e1, e2]
theorem sd_key (a b : Int) (hx : i64 a) (hy : i64 b) : keyOf Tryz.prog 127 (.agg #[.int .i64 a, .int .i64 b]) = some (.string (keyBytes [.int .i64 a, .int .i64 b])) :=
  keyOf_pair (e := 3) ⟨Tryz.underlying127, by kernel_rfl, by kernel_rfl, by kernel_rfl⟩ Tryz.underlying3 types_pos (wf_i64 hx) (wf_i64 hy)
/-- an element that reads as a bool is that bool -/
theorem plainBool_inv {e : TypeId} (he : Tryz.prog.underlying e = some .bool) {v : Value} {z : DataW Unit × List MemPlace} (h : plainElem Tryz.prog e v = some z) : ∃ b, v = .bool b ∧ z = (.lit (.bool b), []) := by
  unfold plainElem at h
  rw [he] at h
  cases v <;> simp at h
  exact ⟨_, rfl, h.symm⟩
abbrev MapB (W : World) (k b n : Nat) (D : DataW Unit) : Prop := W.ownsMap Tryz.prog k (plainElem (H := Unit) Tryz.prog 4) b n D
theorem zero_bool (W : World) : (zeroValue 4).run Tryz.prog W = .ok (.bool false) W := Tryz.zeroValue4 W
theorem MapB.look {W : World} {k t b n : Nat} {D : DataW Unit} (h : MapB W k b n D) (K : Maps.Keyed Tryz.prog k) (ht : Tryz.prog.underlying t = some (.map k 4)) {key : Value} {kl : Lit} (hkey : keyOf Tryz.prog k key = some kl) :
    ∃ c : Bool, (Instr.lookup t (.map (some b)) key false).run Tryz.prog W = .ok (.bool c) W ∧ D.atKey kl (.lit (.bool false)) = .lit (.bool c) := by
  obtain ⟨v, ps, hrun, hv⟩ := World.ownsMap.lookup h K ht (zero_bool W) (Go.plainElem_bool Tryz.underlying4 false) hkey
  obtain ⟨c, rfl, hc⟩ := plainBool_inv Tryz.underlying4 hv
  simp only [Prod.mk.injEq] at hc
  exact ⟨c, hrun, hc.1⟩
/-- the map says yes at just these keys -/
def Says (D : DataW Unit) (key : Lit → Prop) : Prop := Maps.IsMap D ∧ ∀ l, WideAt.IsKeyLit l → ∃ c : Bool, D.atKey l (.lit (.bool false)) = .lit (.bool c) ∧ (c = true ↔ key l)
theorem Says.empty : Says (.map []) (fun _ => False) := ⟨⟨[], rfl⟩, fun l _ => ⟨false, rfl, by simp⟩⟩
theorem Says.put {D : DataW Unit} {key : Lit → Prop} (h : Says D key) {k : Lit} (hk : WideAt.IsKeyLit k) : Says (D.put k (.lit (.bool true))) (fun l => l = k ∨ key l) := by
  refine ⟨h.1.put k _, fun l hl => ?_⟩
  by_cases e : l = k
  · subst e
    exact ⟨true, Maps.atKey_put_same h.1 hl _ _, by simp⟩
  · obtain ⟨c, h1, h2⟩ := h.2 l hl
    exact ⟨c, (Maps.atKey_put_other e _ _).trans h1, by simp [e, h2]⟩
theorem MapB.says {W : World} {k t b n : Nat} {D : DataW Unit} {key : Lit → Prop} (h : MapB W k b n D) (K : Maps.Keyed Tryz.prog k) (ht : Tryz.prog.underlying t = some (.map k 4)) (hs : Says D key) {kv : Value} {kl : Lit} (hkey : keyOf Tryz.prog k kv = some kl) :
    ∃ c : Bool, (Instr.lookup t (.map (some b)) kv false).run Tryz.prog W = .ok (.bool c) W ∧ (c = true ↔ key kl) := by
  obtain ⟨c, h1, h2⟩ := h.look K ht hkey
  obtain ⟨c', h3, h4⟩ := hs.2 kl (K.key hkey)
  rw [h3] at h2
  injection h2 with h2
  injection h2 with h2
  subst h2
  exact ⟨c', h1, h4⟩
end Go.Proofs.YtaaadejamjbcbaaGreatDoor

namespace Go.Proofs.YtaaadejamjbcbaaGreatDoor
open Go Go.RowKit

theorem own_two {w W : World} {L : List (Nat × TypeId × Array Value)} {a b : Array Value} {s t : TypeId} (h : Own w W L) : Own w ((W.alloc (.cells a s)).alloc (.cells b t)).drew ((W.heap.size, s, a) :: (W.heap.size + 1, t, b) :: L) := by
  have Z := ((h.alloc a s).alloc b t).drew.swap
  rw [World.size_alloc] at Z
  exact Z
def sdK (t : Tri) : Nat → Pnt × Pnt
  | 0 => (t.p, t.q)
  | 1 => (t.q, t.r)
  | _ => (t.r, t.p)
theorem sep_yes {t u : Tri} {k : Nat} (hk : k < 3) (h : rgt (sdK t k).1 (sdK t k).2 u = true) : sepB t u = true := by
  unfold sepB
  obtain rfl | rfl | rfl : k = 0 ∨ k = 1 ∨ k = 2 := by omega
  all_goals simp only [sdK] at h; simp [h]
theorem sep_no {t u : Tri} (h : ∀ k, k < 3 → rgt (sdK t k).1 (sdK t k).2 u = false) : sepB t u = false := by
  unfold sepB
  have h0 := h 0 (by omega)
  have h1 := h 1 (by omega)
  have h2 := h 2 (by omega)
  simp only [sdK] at h0 h1 h2
  rw [h0, h1, h2]; rfl
theorem rgt_ways (a b : Pnt) (u : Tri) : (rgt a b u = false ∧ decide (trn a b u.p ≤ 0) = false) ∨ (rgt a b u = false ∧ decide (trn a b u.p ≤ 0) = true ∧ decide (trn a b u.q ≤ 0) = false) ∨
    (rgt a b u = false ∧ decide (trn a b u.p ≤ 0) = true ∧ decide (trn a b u.q ≤ 0) = true ∧ decide (trn a b u.r ≤ 0) = false) ∨ (rgt a b u = true ∧ decide (trn a b u.p ≤ 0) = true ∧ decide (trn a b u.q ≤ 0) = true ∧ decide (trn a b u.r ≤ 0) = true) := by
  unfold rgt
  cases decide (trn a b u.p ≤ 0) <;> cases decide (trn a b u.q ≤ 0) <;> cases decide (trn a b u.r ≤ 0) <;> simp
set_option maxRecDepth 100000 in
set_option maxHeartbeats 8000000 in
theorem mssep_any (t u : Tri) (w : World) (ht : t.in) (hu : u.in) : Calls Tryz.prog 74 #[.agg t.cells.toArray, .agg u.cells.toArray] w (RetW (.bool (sepB t u)) w) := by
  have X := ((Own.start w).alloc #[.int .i64 t.p.x, .int .i64 t.p.y, .int .i64 t.q.x, .int .i64 t.q.y, .int .i64 t.r.x, .int .i64 t.r.y] 102).alloc #[.int .i64 u.p.x, .int .i64 u.p.y, .int .i64 u.q.x, .int .i64 u.q.y, .int .i64 u.r.x, .int .i64 u.r.y] 102
  simp only [World.size_alloc] at X
  have HX := hide X
  clear X
  have TN := hide (fun W (a b c : Pnt) (ha : a.in) (hb : b.in) (hc : c.in) => msturn_any a b c W ha hb hc)
  unfold RetW at TN
  have HT := hide ht
  have HU := hide hu
  have YES := hide (fun k hk h => sep_yes (t := t) (u := u) (k := k) hk h)
  have NO := hide (fun h => sep_no (t := t) (u := u) h)
  generalize sepB t u = ans at *
  clear ht hu
  go_enter Tryz.func74, Tryz.ntmps74
  go_wp2
  go_loopw [8] (fun v8 wr => ∃ k : Nat, k ≤ 3 ∧ v8 = .int .i64 k ∧ Hid (Own w wr [(w.heap.size + 1, 102, #[.int .i64 u.p.x, .int .i64 u.p.y, .int .i64 u.q.x, .int .i64 u.q.y, .int .i64 u.r.x, .int .i64 u.r.y]), (w.heap.size, 102, #[.int .i64 t.p.x, .int .i64 t.p.y, .int .i64 t.q.x, .int .i64 t.q.y, .int .i64 t.r.x, .int .i64 t.r.y])]) ∧
    Hid (∀ j, j < k → rgt (sdK t j).1 (sdK t j).2 u = false)) (fun v8 _ => 3 - (intOf v8).toNat)
  case atStart => exact ⟨0, by omega, rfl, HX, hide (fun j hj => by omega)⟩
  case round =>
    obtain ⟨k, hk, rfl, HO, HN⟩ := hrel
    by_cases h3 : k = 3
    · subst h3
      have E := hide (NO.out HN.out)
      go_wp2
      go_ret
      exact ⟨ret_bool E.out.symm, HO.out.1⟩
    obtain rfl | rfl | rfl : k = 0 ∨ k = 1 ∨ k = 2 := by omega
    · clear hk h3
      have hr := HO.out.r2
      have HNK := hide (fun (h : rgt t.p t.q u = false) j (hj : j < 0 + 1) => (show rgt (sdK t j).1 (sdK t j).2 u = false by
        by_cases e : j = 0
        · subst e; exact h
        · exact HN.out j (by omega)))
      have YK := hide (fun (h : rgt t.p t.q u = true) => YES.out 0 (by omega) h)
      have IA : Pnt.in t.p := HT.out.1
      have IB : Pnt.in t.q := HT.out.2.1
      have RW := rgt_ways t.p t.q u
      have s1 : IntKind.i64.wrap 1 = 1 := by decide
      have s2 : (1 : Int).tmod 3 = 1 := by decide
      have n1 : ¬ (w.heap.size = w.heap.size + 1) := by omega
      have hz : w.heap.size + 1 < wr.heap.size := hr.1.2.2
      go_upto_region 4 with (fail)
      go_cut [6, 7] (fun v6 v7 wx => ∃ b6 b7 : Nat, v6 = .pointer (some ⟨b6, 0, none⟩) ∧ v7 = .pointer (some ⟨b7, 0, none⟩) ∧ Hid (Own w wx [(b6, 95, #[.int .i64 t.p.x, .int .i64 t.p.y]), (b7, 95, #[.int .i64 t.q.x, .int .i64 t.q.y]), (w.heap.size + 1, 102, #[.int .i64 u.p.x, .int .i64 u.p.y, .int .i64 u.q.x, .int .i64 u.q.y, .int .i64 u.r.x, .int .i64 u.r.y]), (w.heap.size, 102, #[.int .i64 t.p.x, .int .i64 t.p.y, .int .i64 t.q.x, .int .i64 t.q.y, .int .i64 t.r.x, .int .i64 t.r.y])]))
      case first =>
        go_region_held3 (fun w' => w'.cell? ⟨w.heap.size, 0, none⟩ = some (.int .i64 t.p.x) ∧ w'.cell? ⟨w.heap.size, 1, none⟩ = some (.int .i64 t.p.y) ∧ w'.cell? ⟨w.heap.size, 2, none⟩ = some (.int .i64 t.q.x) ∧ w'.cell? ⟨w.heap.size, 3, none⟩ = some (.int .i64 t.q.y)) (go_keep) (fail)
        all_goals
          go_wp2_with fail
          go_meet
          refine ⟨_, _, rfl, rfl, ?_⟩
          first | exact hide (own_two HO.out) | exact hide (own_two HO.out).swap
      case rest =>
        obtain ⟨b6, b7, rfl, rfl, HO⟩ := hcut
        clear hr hz n1 s1 s2
        have hr := HO.out.r4
        rcases RW with ⟨r1, t1⟩ | ⟨r1, t1, t2⟩ | ⟨r1, t1, t2, t3⟩ | ⟨r1, t1, t2, t3⟩
        · have HN2 := hide (HNK.out r1)
          clear r1 HNK YK HN
          go_wp2_with fail
          refine (TN.out _ t.p t.q u.p IA IB HU.out.1).mono ?_
          rintro e w1 ⟨rfl, hb⟩
          replace HO := hide (HO.out.to hb)
          clear hr hb
          have hr := HO.out.r4
          go_wp2
          go_roundw
          case rel => exact ⟨0 + 1, by omega, rfl, hide HO.out.tail.tail, HN2⟩
          case measure => simp [intOf]
        · have HN2 := hide (HNK.out r1)
          clear r1 HNK YK HN
          go_wp2_with fail
          refine (TN.out _ t.p t.q u.p IA IB HU.out.1).mono ?_
          rintro e w1 ⟨rfl, hb⟩
          replace HO := hide (HO.out.to hb)
          clear hr hb
          have hr := HO.out.r4
          go_wp2_with fail
          refine (TN.out _ t.p t.q u.q IA IB HU.out.2.1).mono ?_
          rintro e w1 ⟨rfl, hb⟩
          replace HO := hide (HO.out.to hb)
          clear hr hb
          have hr := HO.out.r4
          go_wp2
          go_roundw
          case rel => exact ⟨0 + 1, by omega, rfl, hide HO.out.tail.tail, HN2⟩
          case measure => simp [intOf]
        · have HN2 := hide (HNK.out r1)
          clear r1 HNK YK HN
          go_wp2_with fail
          refine (TN.out _ t.p t.q u.p IA IB HU.out.1).mono ?_
          rintro e w1 ⟨rfl, hb⟩
          replace HO := hide (HO.out.to hb)
          clear hr hb
          have hr := HO.out.r4
          go_wp2_with fail
          refine (TN.out _ t.p t.q u.q IA IB HU.out.2.1).mono ?_
          rintro e w1 ⟨rfl, hb⟩
          replace HO := hide (HO.out.to hb)
          clear hr hb
          have hr := HO.out.r4
          go_wp2_with fail
          refine (TN.out _ t.p t.q u.r IA IB HU.out.2.2).mono ?_
          rintro e w1 ⟨rfl, hb⟩
          replace HO := hide (HO.out.to hb)
          clear hr hb
          have hr := HO.out.r4
          go_wp2
          go_roundw
          case rel => exact ⟨0 + 1, by omega, rfl, hide HO.out.tail.tail, HN2⟩
          case measure => simp [intOf]
        · have E := hide (YK.out r1)
          clear r1 HNK YK HN
          go_wp2_with fail
          refine (TN.out _ t.p t.q u.p IA IB HU.out.1).mono ?_
          rintro e w1 ⟨rfl, hb⟩
          replace HO := hide (HO.out.to hb)
          clear hr hb
          have hr := HO.out.r4
          go_wp2_with fail
          refine (TN.out _ t.p t.q u.q IA IB HU.out.2.1).mono ?_
          rintro e w1 ⟨rfl, hb⟩
          replace HO := hide (HO.out.to hb)
          clear hr hb
          have hr := HO.out.r4
          go_wp2_with fail
          refine (TN.out _ t.p t.q u.r IA IB HU.out.2.2).mono ?_
          rintro e w1 ⟨rfl, hb⟩
          replace HO := hide (HO.out.to hb)
          clear hr hb
          have hr := HO.out.r4
          go_wp2
          go_ret
          exact ⟨ret_bool E.out.symm, HO.out.1⟩
    · clear hk h3
      have hr := HO.out.r2
      have HNK := hide (fun (h : rgt t.q t.r u = false) j (hj : j < 1 + 1) => (show rgt (sdK t j).1 (sdK t j).2 u = false by
        by_cases e : j = 1
        · subst e; exact h
        · exact HN.out j (by omega)))
      have YK := hide (fun (h : rgt t.q t.r u = true) => YES.out 1 (by omega) h)
      have IA : Pnt.in t.q := HT.out.2.1
      have IB : Pnt.in t.r := HT.out.2.2
      have RW := rgt_ways t.q t.r u
      have s1 : IntKind.i64.wrap 2 = 2 := by decide
      have s2 : (2 : Int).tmod 3 = 2 := by decide
      have n1 : ¬ (w.heap.size = w.heap.size + 1) := by omega
      have hz : w.heap.size + 1 < wr.heap.size := hr.1.2.2
      go_upto_region 4 with (fail)
      go_cut [6, 7] (fun v6 v7 wx => ∃ b6 b7 : Nat, v6 = .pointer (some ⟨b6, 0, none⟩) ∧ v7 = .pointer (some ⟨b7, 0, none⟩) ∧ Hid (Own w wx [(b6, 95, #[.int .i64 t.q.x, .int .i64 t.q.y]), (b7, 95, #[.int .i64 t.r.x, .int .i64 t.r.y]), (w.heap.size + 1, 102, #[.int .i64 u.p.x, .int .i64 u.p.y, .int .i64 u.q.x, .int .i64 u.q.y, .int .i64 u.r.x, .int .i64 u.r.y]), (w.heap.size, 102, #[.int .i64 t.p.x, .int .i64 t.p.y, .int .i64 t.q.x, .int .i64 t.q.y, .int .i64 t.r.x, .int .i64 t.r.y])]))
      case first =>
        go_region_held3 (fun w' => w'.cell? ⟨w.heap.size, 2, none⟩ = some (.int .i64 t.q.x) ∧ w'.cell? ⟨w.heap.size, 3, none⟩ = some (.int .i64 t.q.y) ∧ w'.cell? ⟨w.heap.size, 4, none⟩ = some (.int .i64 t.r.x) ∧ w'.cell? ⟨w.heap.size, 5, none⟩ = some (.int .i64 t.r.y)) (go_keep) (fail)
        all_goals
          go_wp2_with fail
          go_meet
          refine ⟨_, _, rfl, rfl, ?_⟩
          first | exact hide (own_two HO.out) | exact hide (own_two HO.out).swap
      case rest =>
        obtain ⟨b6, b7, rfl, rfl, HO⟩ := hcut
        clear hr hz n1 s1 s2
        have hr := HO.out.r4
        rcases RW with ⟨r1, t1⟩ | ⟨r1, t1, t2⟩ | ⟨r1, t1, t2, t3⟩ | ⟨r1, t1, t2, t3⟩
        · have HN2 := hide (HNK.out r1)
          clear r1 HNK YK HN
          go_wp2_with fail
          refine (TN.out _ t.q t.r u.p IA IB HU.out.1).mono ?_
          rintro e w1 ⟨rfl, hb⟩
          replace HO := hide (HO.out.to hb)
          clear hr hb
          have hr := HO.out.r4
          go_wp2
          go_roundw
          case rel => exact ⟨1 + 1, by omega, rfl, hide HO.out.tail.tail, HN2⟩
          case measure => simp [intOf]
        · have HN2 := hide (HNK.out r1)
          clear r1 HNK YK HN
          go_wp2_with fail
          refine (TN.out _ t.q t.r u.p IA IB HU.out.1).mono ?_
          rintro e w1 ⟨rfl, hb⟩
          replace HO := hide (HO.out.to hb)
          clear hr hb
          have hr := HO.out.r4
          go_wp2_with fail
          refine (TN.out _ t.q t.r u.q IA IB HU.out.2.1).mono ?_
          rintro e w1 ⟨rfl, hb⟩
          replace HO := hide (HO.out.to hb)
          clear hr hb
          have hr := HO.out.r4
          go_wp2
          go_roundw
          case rel => exact ⟨1 + 1, by omega, rfl, hide HO.out.tail.tail, HN2⟩
          case measure => simp [intOf]
        · have HN2 := hide (HNK.out r1)
          clear r1 HNK YK HN
          go_wp2_with fail
          refine (TN.out _ t.q t.r u.p IA IB HU.out.1).mono ?_
          rintro e w1 ⟨rfl, hb⟩
          replace HO := hide (HO.out.to hb)
          clear hr hb
          have hr := HO.out.r4
          go_wp2_with fail
          refine (TN.out _ t.q t.r u.q IA IB HU.out.2.1).mono ?_
          rintro e w1 ⟨rfl, hb⟩
          replace HO := hide (HO.out.to hb)
          clear hr hb
          have hr := HO.out.r4
          go_wp2_with fail
          refine (TN.out _ t.q t.r u.r IA IB HU.out.2.2).mono ?_
          rintro e w1 ⟨rfl, hb⟩
          replace HO := hide (HO.out.to hb)
          clear hr hb
          have hr := HO.out.r4
          go_wp2
          go_roundw
          case rel => exact ⟨1 + 1, by omega, rfl, hide HO.out.tail.tail, HN2⟩
          case measure => simp [intOf]
        · have E := hide (YK.out r1)
          clear r1 HNK YK HN
          go_wp2_with fail
          refine (TN.out _ t.q t.r u.p IA IB HU.out.1).mono ?_
          rintro e w1 ⟨rfl, hb⟩
          replace HO := hide (HO.out.to hb)
          clear hr hb
          have hr := HO.out.r4
          go_wp2_with fail
          refine (TN.out _ t.q t.r u.q IA IB HU.out.2.1).mono ?_
          rintro e w1 ⟨rfl, hb⟩
          replace HO := hide (HO.out.to hb)
          clear hr hb
          have hr := HO.out.r4
          go_wp2_with fail
          refine (TN.out _ t.q t.r u.r IA IB HU.out.2.2).mono ?_
          rintro e w1 ⟨rfl, hb⟩
          replace HO := hide (HO.out.to hb)
          clear hr hb
          have hr := HO.out.r4
          go_wp2
          go_ret
          exact ⟨ret_bool E.out.symm, HO.out.1⟩
    · clear hk h3
      have hr := HO.out.r2
      have HNK := hide (fun (h : rgt t.r t.p u = false) j (hj : j < 2 + 1) => (show rgt (sdK t j).1 (sdK t j).2 u = false by
        by_cases e : j = 2
        · subst e; exact h
        · exact HN.out j (by omega)))
      have YK := hide (fun (h : rgt t.r t.p u = true) => YES.out 2 (by omega) h)
      have IA : Pnt.in t.r := HT.out.2.2
      have IB : Pnt.in t.p := HT.out.1
      have RW := rgt_ways t.r t.p u
      have s1 : IntKind.i64.wrap 3 = 3 := by decide
      have s2 : (3 : Int).tmod 3 = 0 := by decide
      have n1 : ¬ (w.heap.size = w.heap.size + 1) := by omega
      have hz : w.heap.size + 1 < wr.heap.size := hr.1.2.2
      go_upto_region 4 with (fail)
      go_cut [6, 7] (fun v6 v7 wx => ∃ b6 b7 : Nat, v6 = .pointer (some ⟨b6, 0, none⟩) ∧ v7 = .pointer (some ⟨b7, 0, none⟩) ∧ Hid (Own w wx [(b6, 95, #[.int .i64 t.r.x, .int .i64 t.r.y]), (b7, 95, #[.int .i64 t.p.x, .int .i64 t.p.y]), (w.heap.size + 1, 102, #[.int .i64 u.p.x, .int .i64 u.p.y, .int .i64 u.q.x, .int .i64 u.q.y, .int .i64 u.r.x, .int .i64 u.r.y]), (w.heap.size, 102, #[.int .i64 t.p.x, .int .i64 t.p.y, .int .i64 t.q.x, .int .i64 t.q.y, .int .i64 t.r.x, .int .i64 t.r.y])]))
      case first =>
        go_region_held3 (fun w' => w'.cell? ⟨w.heap.size, 0, none⟩ = some (.int .i64 t.p.x) ∧ w'.cell? ⟨w.heap.size, 1, none⟩ = some (.int .i64 t.p.y) ∧ w'.cell? ⟨w.heap.size, 4, none⟩ = some (.int .i64 t.r.x) ∧ w'.cell? ⟨w.heap.size, 5, none⟩ = some (.int .i64 t.r.y)) (go_keep) (fail)
        all_goals
          go_wp2_with fail
          go_meet
          refine ⟨_, _, rfl, rfl, ?_⟩
          first | exact hide (own_two HO.out) | exact hide (own_two HO.out).swap
      case rest =>
        obtain ⟨b6, b7, rfl, rfl, HO⟩ := hcut
        clear hr hz n1 s1 s2
        have hr := HO.out.r4
        rcases RW with ⟨r1, t1⟩ | ⟨r1, t1, t2⟩ | ⟨r1, t1, t2, t3⟩ | ⟨r1, t1, t2, t3⟩
        · have HN2 := hide (HNK.out r1)
          clear r1 HNK YK HN
          go_wp2_with fail
          refine (TN.out _ t.r t.p u.p IA IB HU.out.1).mono ?_
          rintro e w1 ⟨rfl, hb⟩
          replace HO := hide (HO.out.to hb)
          clear hr hb
          have hr := HO.out.r4
          go_wp2
          go_roundw
          case rel => exact ⟨2 + 1, by omega, rfl, hide HO.out.tail.tail, HN2⟩
          case measure => simp [intOf]
        · have HN2 := hide (HNK.out r1)
          clear r1 HNK YK HN
          go_wp2_with fail
          refine (TN.out _ t.r t.p u.p IA IB HU.out.1).mono ?_
          rintro e w1 ⟨rfl, hb⟩
          replace HO := hide (HO.out.to hb)
          clear hr hb
          have hr := HO.out.r4
          go_wp2_with fail
          refine (TN.out _ t.r t.p u.q IA IB HU.out.2.1).mono ?_
          rintro e w1 ⟨rfl, hb⟩
          replace HO := hide (HO.out.to hb)
          clear hr hb
          have hr := HO.out.r4
          go_wp2
          go_roundw
          case rel => exact ⟨2 + 1, by omega, rfl, hide HO.out.tail.tail, HN2⟩
          case measure => simp [intOf]
        · have HN2 := hide (HNK.out r1)
          clear r1 HNK YK HN
          go_wp2_with fail
          refine (TN.out _ t.r t.p u.p IA IB HU.out.1).mono ?_
          rintro e w1 ⟨rfl, hb⟩
          replace HO := hide (HO.out.to hb)
          clear hr hb
          have hr := HO.out.r4
          go_wp2_with fail
          refine (TN.out _ t.r t.p u.q IA IB HU.out.2.1).mono ?_
          rintro e w1 ⟨rfl, hb⟩
          replace HO := hide (HO.out.to hb)
          clear hr hb
          have hr := HO.out.r4
          go_wp2_with fail
          refine (TN.out _ t.r t.p u.r IA IB HU.out.2.2).mono ?_
          rintro e w1 ⟨rfl, hb⟩
          replace HO := hide (HO.out.to hb)
          clear hr hb
          have hr := HO.out.r4
          go_wp2
          go_roundw
          case rel => exact ⟨2 + 1, by omega, rfl, hide HO.out.tail.tail, HN2⟩
          case measure => simp [intOf]
        · have E := hide (YK.out r1)
          clear r1 HNK YK HN
          go_wp2_with fail
          refine (TN.out _ t.r t.p u.p IA IB HU.out.1).mono ?_
          rintro e w1 ⟨rfl, hb⟩
          replace HO := hide (HO.out.to hb)
          clear hr hb
          have hr := HO.out.r4
          go_wp2_with fail
          refine (TN.out _ t.r t.p u.q IA IB HU.out.2.1).mono ?_
          rintro e w1 ⟨rfl, hb⟩
          replace HO := hide (HO.out.to hb)
          clear hr hb
          have hr := HO.out.r4
          go_wp2_with fail
          refine (TN.out _ t.r t.p u.r IA IB HU.out.2.2).mono ?_
          rintro e w1 ⟨rfl, hb⟩
          replace HO := hide (HO.out.to hb)
          clear hr hb
          have hr := HO.out.r4
          go_wp2
          go_ret
          exact ⟨ret_bool E.out.symm, HO.out.1⟩
end Go.Proofs.YtaaadejamjbcbaaGreatDoor
