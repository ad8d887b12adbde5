/- The program's twice of a face (landuse), the functions that Areas hands on, slices.ContainsFunc at faces: what each returns; nothing that was there is turned (printed by gen_arf.py). -/
import Derived.Test.YtaaadejamjbcbaaGreatDoorPkLanduseWhole2
import Derived.Test.YtaaadejamjbcbaaGreatDoorPkLanduseWhole3
import Derived.Test.YtaaadejamjbcbaaGreatDoorPkLanduseWhole4
import Derived.Test.YtaaadejamjbcbaaGreatDoorPkLanduseWhole9
import Derived.Deep.DeepCutAuto
namespace Go.Proofs.YtaaadejamjbcbaaGreatDoor
open Go Go.RowKit

theorem Own.perm {w W : World} {L L' : List (Nat × TypeId × Array Value)} (h : Own w W L) (k : ∀ x ∈ L', x ∈ L) : Own w W L' := ⟨h.1, fun x hx => h.2 x (k x hx)⟩
theorem own_three {w W : World} {L : List (Nat × TypeId × Array Value)} {a b c : Array Value} {s t u : TypeId} (h : Own w W L) : Own w (((W.alloc (.cells a s)).alloc (.cells b t)).alloc (.cells c u)).drew ((W.heap.size, s, a) :: (W.heap.size + 1, t, b) :: (W.heap.size + 1 + 1, u, c) :: L) := by
  have Z := (((h.alloc a s).alloc b t).alloc c u).drew
  simp only [World.size_alloc] at Z
  exact Z.perm (by intro x hx; simp only [List.mem_cons] at hx ⊢; rcases hx with h | h | h | h <;> simp [h])
set_option maxRecDepth 100000 in
set_option maxHeartbeats 4000000 in
theorem lutw_any (m : Msh) (a : MshA) (fa fb fc : Nat) (fk : Int) (w : World) (hm : MshSl w m a) (ha : fa < m.ss.length) (hb : fb < m.ss.length) (hc : fc < m.ss.length) (hin : (triA m.ss ⟨fa, fb, fc, fk⟩).in) :
    Calls Tryz.prog 33 #[m.val a, .agg #[.int .i64 fa, .int .i64 fb, .int .i64 fc, .int .i64 fk]] w (RetW (.int .i64 (twA m.ss ⟨fa, fb, fc, fk⟩)) w) := by
  obtain ⟨ss, fs⟩ := m
  obtain ⟨A1, c1, A2, c2⟩ := a
  have ha' : fa < ss.length := ha
  have hb' : fb < ss.length := hb
  have hc' : fc < ss.length := hc
  have hlen : ss.length ≤ 9223372036854775807 := hm.1.1.1
  obtain ⟨b, off, e, hbl, hat⟩ := hm.1.2 (by show 0 < ss.length; omega)
  obtain rfl : A1 = some ⟨b, off, none⟩ := e
  have X := ((Own.start w).alloc #[.slice (some ⟨b, off, none⟩) ss.length c1, .slice A2 fs.length c2] 25).alloc #[.int .i64 fa, .int .i64 fb, .int .i64 fc, .int .i64 fk] 65
  rw [World.size_alloc] at X
  have ET : Hid (triA ss ⟨fa, fb, fc, fk⟩ = ⟨(ss[fa]).pt, (ss[fb]).pt, (ss[fc]).pt⟩) := hide (by simp [triA, spA, ha', hb', hc'])
  have KC := hide (fun W' (h : Below w.heap.size w W') => (⟨(h.cell (p := ⟨b, _, none⟩) hbl).trans (hat fa ha').1, (h.cell (p := ⟨b, _, none⟩) hbl).trans (hat fa ha').2.1, (h.cell (p := ⟨b, _, none⟩) hbl).trans (hat fa ha').2.2, (h.cell (p := ⟨b, _, none⟩) hbl).trans (hat fb hb').1, (h.cell (p := ⟨b, _, none⟩) hbl).trans (hat fb hb').2.1, (h.cell (p := ⟨b, _, none⟩) hbl).trans (hat fb hb').2.2, (h.cell (p := ⟨b, _, none⟩) hbl).trans (hat fc hc').1, (h.cell (p := ⟨b, _, none⟩) hbl).trans (hat fc hc').2.1, (h.cell (p := ⟨b, _, none⟩) hbl).trans (hat fc hc').2.2⟩ : W'.cell? ⟨b, off + fa * 3, none⟩ = some (.int .i64 (ss[fa]).x) ∧ W'.cell? ⟨b, off + fa * 3 + 1, none⟩ = some (.int .i64 (ss[fa]).y) ∧ W'.cell? ⟨b, off + fa * 3 + 2, none⟩ = some (.int .i64 (ss[fa]).z) ∧ W'.cell? ⟨b, off + fb * 3, none⟩ = some (.int .i64 (ss[fb]).x) ∧ W'.cell? ⟨b, off + fb * 3 + 1, none⟩ = some (.int .i64 (ss[fb]).y) ∧ W'.cell? ⟨b, off + fb * 3 + 2, none⟩ = some (.int .i64 (ss[fb]).z) ∧ W'.cell? ⟨b, off + fc * 3, none⟩ = some (.int .i64 (ss[fc]).x) ∧ W'.cell? ⟨b, off + fc * 3 + 1, none⟩ = some (.int .i64 (ss[fc]).y) ∧ W'.cell? ⟨b, off + fc * 3 + 2, none⟩ = some (.int .i64 (ss[fc]).z)))
  have IN : (⟨(ss[fa]).pt, (ss[fb]).pt, (ss[fc]).pt⟩ : Tri).in := by rw [← ET.out]; exact hin
  have ga : (fa : Int) < (ss.length : Int) := by omega
  have gb : (fb : Int) < (ss.length : Int) := by omega
  have gc : (fc : Int) < (ss.length : Int) := by omega
  have za : (0 : Int) ≤ (fa : Int) := by omega
  have zb : (0 : Int) ≤ (fb : Int) := by omega
  have zc : (0 : Int) ≤ (fc : Int) := by omega
  show Calls _ _ #[.agg #[.slice (some ⟨b, off, none⟩) ss.length c1, .slice A2 fs.length c2], _] w (RetW (.int .i64 (trn (triA ss ⟨fa, fb, fc, fk⟩).p (triA ss ⟨fa, fb, fc, fk⟩).q (triA ss ⟨fa, fb, fc, fk⟩).r)) w)
  rw [ET.out]
  show Calls _ _ _ w (RetW (.int .i64 (trn (ss[fa]).pt (ss[fb]).pt (ss[fc]).pt)) w)
  generalize ss[fa] = sa at *
  generalize ss[fb] = sb at *
  generalize ss[fc] = sc at *
  clear hat hm ET ha hb hc hin
  go_enter Tryz.func33, Tryz.ntmps33
  go_upto_region 1 with (fail)
  generalize (w.alloc (.cells #[.slice (some ⟨b, off, none⟩) ss.length c1, .slice A2 fs.length c2] 25)).alloc (.cells #[.int .i64 fa, .int .i64 fb, .int .i64 fc, .int .i64 fk] 65) = W at *
  have hr := X.r2
  have HX := hide X
  obtain ⟨q0, q1, q2, q3, q4, q5, q6, q7, q8⟩ := KC.out _ X.1
  have nb : b < W.heap.size := Nat.lt_of_lt_of_le hbl X.1.size
  have n0 : w.heap.size + 1 < W.heap.size := hr.1.2.2
  have KS := hide (fun W' (h : Below W.heap.size W W') => (⟨(h.cell (p := ⟨w.heap.size, 0, none⟩) hr.2.2.2).trans (hr.2.1 0), (h.cell (p := ⟨w.heap.size + 1, 0, none⟩) hr.1.2.2).trans (hr.1.1 0), (h.cell (p := ⟨w.heap.size + 1, 1, none⟩) hr.1.2.2).trans (hr.1.1 1), (h.cell (p := ⟨w.heap.size + 1, 2, none⟩) hr.1.2.2).trans (hr.1.1 2), (h.cell (p := ⟨b, _, none⟩) nb).trans q0, (h.cell (p := ⟨b, _, none⟩) nb).trans q1, (h.cell (p := ⟨b, _, none⟩) nb).trans q2, (h.cell (p := ⟨b, _, none⟩) nb).trans q3, (h.cell (p := ⟨b, _, none⟩) nb).trans q4, (h.cell (p := ⟨b, _, none⟩) nb).trans q5, (h.cell (p := ⟨b, _, none⟩) nb).trans q6, (h.cell (p := ⟨b, _, none⟩) nb).trans q7, (h.cell (p := ⟨b, _, none⟩) nb).trans q8⟩ : W'.cell? ⟨w.heap.size, 0, none⟩ = some (.slice (some ⟨b, off, none⟩) ss.length c1) ∧ W'.cell? ⟨w.heap.size + 1, 0, none⟩ = some (.int .i64 fa) ∧ W'.cell? ⟨w.heap.size + 1, 1, none⟩ = some (.int .i64 fb) ∧ W'.cell? ⟨w.heap.size + 1, 2, none⟩ = some (.int .i64 fc) ∧ W'.cell? ⟨b, off + fa * 3, none⟩ = some (.int .i64 sa.x) ∧ W'.cell? ⟨b, off + fa * 3 + 1, none⟩ = some (.int .i64 sa.y) ∧ W'.cell? ⟨b, off + fa * 3 + 2, none⟩ = some (.int .i64 sa.z) ∧ W'.cell? ⟨b, off + fb * 3, none⟩ = some (.int .i64 sb.x) ∧ W'.cell? ⟨b, off + fb * 3 + 1, none⟩ = some (.int .i64 sb.y) ∧ W'.cell? ⟨b, off + fb * 3 + 2, none⟩ = some (.int .i64 sb.z) ∧ W'.cell? ⟨b, off + fc * 3, none⟩ = some (.int .i64 sc.x) ∧ W'.cell? ⟨b, off + fc * 3 + 1, none⟩ = some (.int .i64 sc.y) ∧ W'.cell? ⟨b, off + fc * 3 + 2, none⟩ = some (.int .i64 sc.z)))
  have n1 : ¬ b = W.heap.size := by omega
  have n2 : ¬ b = W.heap.size + 1 := by omega
  have n3 : ¬ b = W.heap.size + 1 + 1 := by omega
  have n4 : ¬ w.heap.size = W.heap.size := by omega
  have n5 : ¬ w.heap.size = W.heap.size + 1 := by omega
  have n6 : ¬ w.heap.size = W.heap.size + 1 + 1 := by omega
  have n7 : ¬ w.heap.size + 1 = W.heap.size := by omega
  have n8 : ¬ w.heap.size + 1 = W.heap.size + 1 := by omega
  have n9 : ¬ w.heap.size + 1 = W.heap.size + 1 + 1 := by omega
  clear X
  go_cut [5, 6, 7] (fun v5 v6 v7 wx => ∃ b5 b6 b7 : Nat, v5 = .pointer (some ⟨b5, 0, none⟩) ∧ v6 = .pointer (some ⟨b6, 0, none⟩) ∧ v7 = .pointer (some ⟨b7, 0, none⟩) ∧ Hid (Own w wx [(b5, 62, #[.int .i64 sa.x, .int .i64 sa.y, .int .i64 sa.z]), (b6, 62, #[.int .i64 sb.x, .int .i64 sb.y, .int .i64 sb.z]), (b7, 62, #[.int .i64 sc.x, .int .i64 sc.y, .int .i64 sc.z])]))
  case first =>
    go_region_held3 (fun w' => w'.cell? ⟨w.heap.size, 0, none⟩ = some (.slice (some ⟨b, off, none⟩) ss.length c1) ∧ w'.cell? ⟨w.heap.size + 1, 0, none⟩ = some (.int .i64 fa) ∧ w'.cell? ⟨w.heap.size + 1, 1, none⟩ = some (.int .i64 fb) ∧ w'.cell? ⟨w.heap.size + 1, 2, none⟩ = some (.int .i64 fc) ∧ w'.cell? ⟨b, off + fa * 3, none⟩ = some (.int .i64 sa.x) ∧ w'.cell? ⟨b, off + fa * 3 + 1, none⟩ = some (.int .i64 sa.y) ∧ w'.cell? ⟨b, off + fa * 3 + 2, none⟩ = some (.int .i64 sa.z) ∧ w'.cell? ⟨b, off + fb * 3, none⟩ = some (.int .i64 sb.x) ∧ w'.cell? ⟨b, off + fb * 3 + 1, none⟩ = some (.int .i64 sb.y) ∧ w'.cell? ⟨b, off + fb * 3 + 2, none⟩ = some (.int .i64 sb.z) ∧ w'.cell? ⟨b, off + fc * 3, none⟩ = some (.int .i64 sc.x) ∧ w'.cell? ⟨b, off + fc * 3 + 1, none⟩ = some (.int .i64 sc.y) ∧ w'.cell? ⟨b, off + fc * 3 + 2, none⟩ = some (.int .i64 sc.z)) (first | exact KS.out _ (by go_grown) | go_keep) (fail)
    all_goals
      go_wp2_with fail
      go_meet
      exact ⟨_, _, _, rfl, rfl, rfl, hide ((own_three HX.out).perm (by intro x hx; simp only [List.mem_cons, List.not_mem_nil, or_false] at hx ⊢; rcases hx with h | h | h <;> simp [h]))⟩
  case rest =>
    obtain ⟨b5, b6, b7, rfl, rfl, rfl, HO⟩ := hcut
    have hr := HO.out.r3
    have XB := hide HO.out.1
    obtain ⟨m1, m2⟩ := trn_bd IN.1 IN.2.1 IN.2.2
    obtain ⟨⟨⟨a1, a2⟩, a3, a4⟩, ⟨⟨b1, b2⟩, b3, b4⟩, ⟨⟨k1, k2⟩, k3, k4⟩⟩ := IN
    clear HX KC q0 q1 q2 q3 q4 q5 q6 q7 q8 n0 n1 n2 n3 n4 n5 n6 n7 n8 n9
    have m1' : -1125899906842624 ≤ (sb.x - sa.x) * (sc.y - sa.y) ∧ (sb.x - sa.x) * (sc.y - sa.y) ≤ 1125899906842624 := m1
    have m2' : -1125899906842624 ≤ (sb.y - sa.y) * (sc.x - sa.x) ∧ (sb.y - sa.y) * (sc.x - sa.x) ≤ 1125899906842624 := m2
    have a1' : -16777216 ≤ sa.x := a1
    have a2' : sa.x ≤ 16777216 := a2
    have a3' : -16777216 ≤ sa.y := a3
    have a4' : sa.y ≤ 16777216 := a4
    have b1' : -16777216 ≤ sb.x := b1
    have b2' : sb.x ≤ 16777216 := b2
    have b3' : -16777216 ≤ sb.y := b3
    have b4' : sb.y ≤ 16777216 := b4
    have k1' : -16777216 ≤ sc.x := k1
    have k2' : sc.x ≤ 16777216 := k2
    have k3' : -16777216 ≤ sc.y := k3
    have k4' : sc.y ≤ 16777216 := k4
    clear m1 m2 a1 a2 a3 a4 b1 b2 b3 b4 k1 k2 k3 k4
    have E : Hid (trn sa.pt sb.pt sc.pt = (sb.x - sa.x) * (sc.y - sa.y) - (sb.y - sa.y) * (sc.x - sa.x)) := hide rfl
    generalize trn sa.pt sb.pt sc.pt = t at *
    have e1 := IntWalk.i64_in (sb.x - sa.x) (by omega)
    have e2 := IntWalk.i64_in (sc.y - sa.y) (by omega)
    have e3 := IntWalk.i64_in (sb.y - sa.y) (by omega)
    have e4 := IntWalk.i64_in (sc.x - sa.x) (by omega)
    obtain ⟨p, hp⟩ : ∃ p, p = (sb.x - sa.x) * (sc.y - sa.y) := ⟨_, rfl⟩
    obtain ⟨q, hq⟩ : ∃ q, q = (sb.y - sa.y) * (sc.x - sa.x) := ⟨_, rfl⟩
    rw [← hp, ← hq] at E
    rw [← hp] at m1'
    rw [← hq] at m2'
    have w1 : IntKind.i64.wrap ((sb.x - sa.x) * (sc.y - sa.y)) = p := by rw [← hp]; exact IntWalk.i64_in _ (by omega)
    have w2 : IntKind.i64.wrap ((sb.y - sa.y) * (sc.x - sa.x)) = q := by rw [← hq]; exact IntWalk.i64_in _ (by omega)
    have w3 := IntWalk.i64_in (p - q) (by omega)
    clear hp hq
    go_wp2
    go_ret
    exact ⟨by rw [E.out]; rfl, XB.out⟩
set_option maxHeartbeats 1000000 in
theorem lubd_any (i : Int) (w : World) : Calls Tryz.prog 30 #[.int .i64 i] w fun e w' => e = .returned (.bool (bdI i)) ∧ w = w' := by
  have E : Hid (bdI i = (decide (i < -1) || decide (300 ≤ i))) := hide rfl
  by_cases h1 : i < -1
  · have q1 : decide (i < -1) = true := decide_eq_true h1
    go_enter Tryz.func30, Tryz.ntmps30
    go_wp2
    go_ret
    exact ⟨ret_bool (by rw [E.out, q1]; rfl), rfl⟩
  · have q1 : decide (i < -1) = false := decide_eq_false h1
    by_cases h2 : 300 ≤ i
    · have q2 : decide (300 ≤ i) = true := decide_eq_true h2
      go_enter Tryz.func30, Tryz.ntmps30
      go_wp2
      go_ret
      exact ⟨ret_bool (by rw [E.out, q1, q2]; rfl), rfl⟩
    · have q2 : decide (300 ≤ i) = false := decide_eq_false h2
      go_enter Tryz.func30, Tryz.ntmps30
      go_wp2
      go_ret
      exact ⟨ret_bool (by rw [E.out, q1, q2]; rfl), rfl⟩
set_option maxHeartbeats 1000000 in
theorem lucl_any (a b c k : Int) (n : Int) (bc : Nat) (w : World) (hB : w.cell? ⟨bc, 0, none⟩ = some (.int .i64 n)) (hb : bc < w.heap.size) : Calls Tryz.prog 32 #[.agg #[.int .i64 a, .int .i64 b, .int .i64 c, .int .i64 k], .pointer (some ⟨bc, 0, none⟩)] w (RetW (.bool (decide (n ≤ k))) w) := by
  have X := (Own.start w).alloc #[.int .i64 a, .int .i64 b, .int .i64 c, .int .i64 k] 65
  have hr := X.r1
  have hB' := (X.1.cell (p := ⟨bc, 0, none⟩) hb).trans hB
  have n1 : ¬ bc = w.heap.size := by omega
  go_enter Tryz.func32, Tryz.ntmps32
  go_wp2
  go_ret
  exact ⟨rfl, X.1⟩
def idxF (p : Fce → Bool) (l : List Fce) : Int := match l.findIdx? p with | some i => (i : Int) | none => -1
theorem idxF_no {p : Fce → Bool} {l : List Fce} (h : ∀ i (hi : i < l.length), p l[i] = false) : idxF p l = -1 := by
  have : l.findIdx? p = none := by
    rw [List.findIdx?_eq_none_iff]
    intro x hx
    obtain ⟨i, hi, rfl⟩ := List.mem_iff_getElem.1 hx
    exact h i hi
  simp [idxF, this]
theorem idxF_yes {p : Fce → Bool} {l : List Fce} {k : Nat} (hk : k < l.length) (h : ∀ i (hi : i < l.length), i < k → p l[i] = false) (hy : p l[k] = true) : idxF p l = k := by
  have : l.findIdx? p = some k := by
    rw [List.findIdx?_eq_some_iff_getElem]
    exact ⟨hk, hy, fun j hj => by rw [h j (by omega) hj]; simp⟩
  simp [idxF, this]
theorem any_idxF (p : Fce → Bool) (l : List Fce) : l.any p = decide (0 ≤ idxF p l) := by
  unfold idxF
  cases h : l.findIdx? p with
  | none =>
    rw [List.findIdx?_eq_none_iff] at h
    rw [Bool.eq_iff_iff]
    simp only [List.any_eq_true, decide_eq_true_eq]
    constructor
    · rintro ⟨x, hx, hp⟩
      rw [h x hx] at hp
      cases hp
    · intro h'
      omega
  | some i =>
    rw [List.findIdx?_eq_some_iff_getElem] at h
    obtain ⟨hi, hp, _⟩ := h
    rw [Bool.eq_iff_iff]
    simp only [List.any_eq_true, decide_eq_true_eq]
    exact ⟨fun _ => by omega, fun _ => ⟨l[i], List.getElem_mem hi, hp⟩⟩
set_option maxRecDepth 100000 in
set_option maxHeartbeats 2000000 in
theorem idxF_any (n : Int) (l : List Fce) (A : Option Addr) (cap bc : Nat) (w : World) (hl : FceSl w A l) (hB : w.cell? ⟨bc, 0, none⟩ = some (.int .i64 n)) (hb : bc < w.heap.size) :
    Calls Tryz.prog 52 #[.slice A l.length cap, .func (.func 32) #[] #[.pointer (some ⟨bc, 0, none⟩)]] w (RetW (.int .i64 (idxF (fun f => decide (n ≤ f.k)) l)) w) := by
  have hlen : l.length ≤ 9223372036854775807 := hl.1.1
  have H := hide hl
  have CK := hide (fun W (o : Fce) h h' => lucl_any o.a o.b o.c o.k n bc W h h')
  unfold RetW at CK
  have HB := hide hB
  clear hl hB
  go_enter Tryz.func52, Tryz.ntmps52
  go_wp2
  go_loopw [8] (fun v8 wr => ∃ k : Nat, k ≤ l.length ∧ v8 = .int .i64 k ∧ Hid (Below w.heap.size w wr) ∧ Hid (∀ i (hi : i < l.length), i < k → decide (n ≤ l[i].k) = false)) (fun v8 _ => l.length - (intOf v8).toNat)
  case atStart => exact ⟨0, Nat.zero_le _, rfl, hide (Below.refl _ _), hide (fun _ _ h => by omega)⟩
  case round =>
    obtain ⟨k, hk, rfl, HW, hno⟩ := hrel
    by_cases hlt : k < l.length
    · obtain ⟨b, off, rfl, hbl, hat⟩ := (H.out.below HW.out).2 (by omega)
      obtain ⟨c0, c1, c2, c3⟩ := hat k hlt
      have HBk := hide ((HW.out.cell (p := ⟨bc, 0, none⟩) hb).trans HB.out)
      have hbk := hide (Nat.lt_of_lt_of_le hb HW.out.size)
      have CKk := hide (CK.out _ l[k] HBk.out hbk.out)
      clear hat
      by_cases hs : decide (n ≤ l[k].k) = true
      · have E := hide (idxF_yes (p := fun f => decide (n ≤ f.k)) hlt (fun i hi hik => hno.out i hi hik) hs)
        rw [hs] at CKk
        clear hs
        generalize l[k] = o at *
        go_wp2_with fail
        refine CKk.out.mono ?_
        rintro e w' ⟨rfl, hb⟩
        go_wp2
        go_ret
        exact ⟨ret_int E.out.symm, below_via HW.out HW.out.size hb⟩
      · have hs : decide (n ≤ l[k].k) = false := by simpa using hs
        have hno2 := hide (fun i (hi : i < l.length) (hik : i < k + 1) => (show decide (n ≤ l[i].k) = false by
          by_cases e : i = k
          · subst e; exact hs
          · exact hno.out i hi (by omega)))
        rw [hs] at CKk
        clear hs
        generalize l[k] = o at *
        go_wp2_with fail
        refine CKk.out.mono ?_
        rintro e w' ⟨rfl, hb⟩
        have HW2 := hide (below_via HW.out HW.out.size hb)
        clear hb
        go_wp2
        go_roundw
        case rel => exact ⟨k + 1, by omega, by go_num, HW2, hno2⟩
        case measure => simp [intOf]; omega
    · go_wp2
      go_ret
      exact ⟨ret_int (idxF_no fun i hi => hno.out i hi (by omega)).symm, HW.out⟩
set_option maxHeartbeats 1000000 in
theorem contF_any (n : Int) (l : List Fce) (A : Option Addr) (cap bc : Nat) (w : World) (hl : FceSl w A l) (hB : w.cell? ⟨bc, 0, none⟩ = some (.int .i64 n)) (hb : bc < w.heap.size) :
    Calls Tryz.prog 31 #[.slice A l.length cap, .func (.func 32) #[] #[.pointer (some ⟨bc, 0, none⟩)]] w (RetW (.bool (l.any fun f => decide (n ≤ f.k))) w) := by
  have C := hide (idxF_any n l A cap bc w hl hB hb)
  have E := hide (any_idxF (fun f => decide (n ≤ f.k)) l)
  generalize idxF (fun f => decide (n ≤ f.k)) l = i at *
  unfold RetW at C
  clear hl hB hb
  go_enter Tryz.func31, Tryz.ntmps31
  go_wp2_with fail
  refine C.out.mono ?_
  rintro e w' ⟨rfl, hb⟩
  go_wp2
  go_ret
  exact ⟨ret_bool E.out.symm, hb⟩
end Go.Proofs.YtaaadejamjbcbaaGreatDoor
