/- Parts of one proof, joined: Slices of points; slices.IndexFunc and slices.ContainsFunc at points; the program's all, square, Distance of points: what each returns; nothing that was there is turned. The program's Root of wide integers, Distance of points: what each returns; nothing that was there is turned. The program's corners of a face, the place of a spot, the turn of points, and the first side of a face that a point is outside of: what each returns; nothing that was there is turned (printed by gen_lc.py). The first side of a face that a point is outside of: what outer returns; nothing that was there is turned (printed by gen_lco.py). The last step of a law's row, once for all laws: where the call answers true and nothing that was there has turned, the row's outcome is reached. Maps whose keys are points or pairs of integers and whose elements are bools, that the call made: look-up and store. The program's triangle, separates, and the two functions that Check hands on: what each returns; nothing that was there is turned. The program's separates: whether a side of a triangle has another triangle on its right; nothing that was there is turned (printed by gen_sep.py). slices.IndexFunc and slices.ContainsFunc at integers, with a function that captures nothing and turns nothing. The functions that Check hands to slices.ContainsFunc, and these calls: what each returns; nothing that was there is turned. The function that Check hands to slices.ContainsFunc at corners, and this call: what each returns; nothing is turned. Rows of a block written cell by cell. What Check holds on its way: rows of findings, the spots that are not right, maps, and triangles; what each step keeps. -/
import Derived.Test.YtbmocghfpcfmhaaDoorPkCostsLater1
import Derived.Test.YtbmocghfpcfmhaaDoorPkCostsLater3
import Derived.Deep.Cut
import Derived.Maps.OwnOps
import Derived.DeepKeys5
import Derived.WideKeyPair
import Derived.Deep.DeepCutAuto
import Derived.Deep.QuietTactic
import Derived.BigQuiet
import Derived.Shelf.Abstract
import Derived.Deep.AppendLies
namespace Go.Proofs.YtbmocghfpcfmhaaDoor
open Go Go.RowKit

/-- a slice of points that reads as a list -/
def PntSl (w : World) (A : Option Addr) (l : List Pnt) : Prop :=
  l.length ≤ 9223372036854775807 ∧ (0 < l.length → ∃ b off, A = some ⟨b, off, none⟩ ∧ b < w.heap.size ∧ ∀ i (h : i < l.length), w.cell? ⟨b, off + i * 2, none⟩ = some (.int .i64 l[i].x) ∧ w.cell? ⟨b, off + i * 2 + 1, none⟩ = some (.int .i64 l[i].y))
theorem PntSl.below {w w' : World} {A : Option Addr} {l : List Pnt} (h : PntSl w A l) (hb : Below w.heap.size w w') : PntSl w' A l :=
  ⟨h.1, fun hl => by
    obtain ⟨b, off, e, hlt, hat⟩ := h.2 hl
    have k := fun (i : Nat) => hb.cell (p := ⟨b, i, none⟩) hlt
    exact ⟨b, off, e, Nat.lt_of_lt_of_le hlt hb.size, fun i hi => ⟨(k _).trans (hat i hi).1, (k _).trans (hat i hi).2⟩⟩⟩
def idxQ (p : Pnt → Bool) (l : List Pnt) : Int := match l.findIdx? p with | some i => (i : Int) | none => -1
theorem idxQ_no {p : Pnt → Bool} {l : List Pnt} (h : ∀ i (hi : i < l.length), p l[i] = false) : idxQ p l = -1 := by
  have : l.findIdx? p = none := by
    rw [List.findIdx?_eq_none_iff]
    intro x hx
    obtain ⟨i, hi, rfl⟩ := List.mem_iff_getElem.1 hx
    exact h i hi
  simp [idxQ, this]
theorem idxQ_yes {p : Pnt → Bool} {l : List Pnt} {k : Nat} (hk : k < l.length) (h : ∀ i (hi : i < l.length), i < k → p l[i] = false) (hy : p l[k] = true) : idxQ p l = k := by
  have : l.findIdx? p = some k := by
    rw [List.findIdx?_eq_some_iff_getElem]
    exact ⟨hk, hy, fun j hj => by rw [h j (by omega) hj]; simp⟩
  simp [idxQ, this]
theorem any_idxQ (p : Pnt → Bool) (l : List Pnt) : l.any p = decide (0 ≤ idxQ p l) := by
  unfold idxQ
  cases h : l.findIdx? p with
  | none =>
    rw [List.findIdx?_eq_none_iff] at h
    rw [Bool.eq_iff_iff]
    simp only [List.any_eq_true, decide_eq_true_eq]
    constructor
    · rintro ⟨x, hx, hp⟩
      rw [h x hx] at hp
      cases hp
    · intro h'
      omega
  | some i =>
    rw [List.findIdx?_eq_some_iff_getElem] at h
    obtain ⟨hi, hp, _⟩ := h
    rw [Bool.eq_iff_iff]
    simp only [List.any_eq_true, decide_eq_true_eq]
    exact ⟨fun _ => by omega, fun _ => ⟨l[i], List.getElem_mem hi, hp⟩⟩
set_option maxRecDepth 100000 in
set_option maxHeartbeats 2000000 in
theorem idxQ_any (f : Nat) (q : Pnt → Bool) (hf : ∀ (d : Pnt) (W : World), Calls Tryd.prog f #[d.val] W (RetW (.bool (q d)) W)) (hc : ∀ (d : Pnt) (w : World), (callFunc f #[d.val]).run Tryd.prog w = .ok (.enter f #[d.val]) w) (l : List Pnt) (A : Option Addr) (cap : Nat) (w : World) (hl : PntSl w A l) :
    Calls Tryd.prog 73 #[.slice A l.length cap, .func (.func f) #[] #[]] w (RetW (.int .i64 (idxQ q l)) w) := by
  have hlen : l.length ≤ 9223372036854775807 := hl.1
  have H := hide hl
  have CK := hide hf
  unfold RetW at CK
  clear hl hf
  go_enter Tryd.func73, Tryd.ntmps73
  go_wp2
  go_loopw [8] (fun v8 wr => ∃ k : Nat, k ≤ l.length ∧ v8 = .int .i64 k ∧ Hid (Below w.heap.size w wr) ∧ Hid (∀ i (hi : i < l.length), i < k → q l[i] = false)) (fun v8 _ => l.length - (intOf v8).toNat)
  case atStart => exact ⟨0, Nat.zero_le _, rfl, hide (Below.refl _ _), hide (fun _ _ h => by omega)⟩
  case round =>
    obtain ⟨k, hk, rfl, HW, hno⟩ := hrel
    by_cases hlt : k < l.length
    · obtain ⟨b, off, rfl, hbl, hat⟩ := (H.out.below HW.out).2 (by omega)
      obtain ⟨c0, c1⟩ := hat k hlt
      have CKk := hide (fun W => CK.out l[k] W)
      clear hat
      by_cases hs : q l[k] = true
      · have E := hide (idxQ_yes (p := q) hlt (fun i hi hik => hno.out i hi hik) hs)
        rw [hs] at CKk
        clear hs
        generalize l[k] = o at *
        go_wp2_with fail
        refine (CKk.out _).mono ?_
        rintro e w' ⟨rfl, hb⟩
        go_wp2
        go_ret
        exact ⟨ret_int E.out.symm, below_via HW.out HW.out.size hb⟩
      · have hs : q l[k] = false := by simpa using hs
        have hno2 := hide (fun i (hi : i < l.length) (hik : i < k + 1) => (show q l[i] = false by
          by_cases e : i = k
          · subst e; exact hs
          · exact hno.out i hi (by omega)))
        rw [hs] at CKk
        clear hs
        generalize l[k] = o at *
        go_wp2_with fail
        refine (CKk.out _).mono ?_
        rintro e w' ⟨rfl, hb⟩
        have HW2 := hide (below_via HW.out HW.out.size hb)
        clear hb
        go_wp2
        go_roundw
        case rel => exact ⟨k + 1, by omega, by go_num, HW2, hno2⟩
        case measure => simp [intOf]; omega
    · go_wp2
      go_ret
      exact ⟨ret_int (idxQ_no fun i hi => hno.out i hi (by omega)).symm, HW.out⟩
set_option maxHeartbeats 1000000 in
theorem contQ_any (f : Nat) (q : Pnt → Bool) (hf : ∀ (d : Pnt) (W : World), Calls Tryd.prog f #[d.val] W (RetW (.bool (q d)) W)) (hc : ∀ (d : Pnt) (w : World), (callFunc f #[d.val]).run Tryd.prog w = .ok (.enter f #[d.val]) w) (l : List Pnt) (A : Option Addr) (cap : Nat) (w : World) (hl : PntSl w A l) :
    Calls Tryd.prog 61 #[.slice A l.length cap, .func (.func f) #[] #[]] w (RetW (.bool (l.any q)) w) := by
  have C := hide (idxQ_any f q hf hc l A cap w hl)
  have H := hide (any_idxQ q l)
  unfold RetW at C
  clear hf hl
  go_enter Tryd.func61, Tryd.ntmps61
  go_wp2_with fail
  refine C.out.mono ?_
  rintro e w' ⟨rfl, hb⟩
  go_wp2
  go_ret
  exact ⟨ret_bool H.out.symm, hb⟩
set_option maxHeartbeats 1000000 in
theorem plall1_any (p : Pnt) (w : World) : Calls Tryd.prog 62 #[p.val] w (RetW (.bool (!inP p)) w) := by
  have X := (Own.start w).alloc #[.int .i64 p.x, .int .i64 p.y] 44
  have hr := X.r1
  have PV := hide (fun W => plvalid_any p W)
  unfold RetW at PV
  go_enter Tryd.func62, Tryd.ntmps62
  go_wp2_with fail
  refine (PV.out _).mono ?_
  rintro e w1 ⟨rfl, hb⟩
  have XB := (X.to hb).1
  clear hb hr
  go_wp2
  go_ret
  exact ⟨rfl, XB⟩
set_option maxHeartbeats 1000000 in
theorem plall_any (l : List Pnt) (A : Option Addr) (cap : Nat) (w : World) (hl : PntSl w A l) : Calls Tryd.prog 34 #[.slice A l.length cap] w (RetW (.bool (l.all inP)) w) := by
  have C := hide (contQ_any 62 (fun p => !inP p) plall1_any (fun d w => enters_of Tryd.func62 (by kernel_rfl) rfl _ w) l A cap w hl)
  have E : Hid ((!(l.any fun p => !inP p)) = l.all inP) := hide (by rw [List.any_eq_not_all_not]; simp)
  unfold RetW at C
  clear hl
  generalize (l.any fun p => !inP p) = b at *
  go_enter Tryd.func34, Tryd.ntmps34
  go_wp2_with fail
  refine C.out.mono ?_
  rintro e w' ⟨rfl, hb⟩
  go_wp2
  go_ret
  exact ⟨ret_bool E.out, hb⟩
set_option maxHeartbeats 1000000 in
theorem plsquare_any (a b : Pnt) (w : World) (ha : a.in) (hb : b.in) : Calls Tryd.prog 35 #[a.val, b.val] w (RetW (.int .i64 (sqD a b)) w) := by
  have X := ((Own.start w).alloc #[.int .i64 a.x, .int .i64 a.y] 44).alloc #[.int .i64 b.x, .int .i64 b.y] 44
  simp only [World.size_alloc] at X
  have hr := X.r2
  have XB := hide X.1
  obtain ⟨⟨m1, m2⟩, m3⟩ := sqD_bd ha hb
  obtain ⟨⟨a1, a2⟩, a3, a4⟩ := ha
  obtain ⟨⟨b1, b2⟩, b3, b4⟩ := hb
  have E : Hid (sqD a b = (a.x - b.x) * (a.x - b.x) + (a.y - b.y) * (a.y - b.y)) := hide rfl
  generalize sqD a b = t at *
  have e1 := IntWalk.i64_in (a.x - b.x) (by omega)
  have e2 := IntWalk.i64_in (a.y - b.y) (by omega)
  obtain ⟨p, hp⟩ : ∃ p, p = (a.x - b.x) * (a.x - b.x) := ⟨_, rfl⟩
  obtain ⟨q, hq⟩ : ∃ q, q = (a.y - b.y) * (a.y - b.y) := ⟨_, rfl⟩
  rw [← hp, ← hq] at E
  rw [← hp] at m1
  rw [← hq] at m2
  have w1 : IntKind.i64.wrap ((a.x - b.x) * (a.x - b.x)) = p := by rw [← hp]; exact IntWalk.i64_in _ (by omega)
  have w2 : IntKind.i64.wrap ((a.y - b.y) * (a.y - b.y)) = q := by rw [← hq]; exact IntWalk.i64_in _ (by omega)
  have w3 := IntWalk.i64_in (p + q) (by omega)
  clear hp hq X m3
  go_enter Tryd.func35, Tryd.ntmps35
  go_wp2
  go_ret
  exact ⟨by rw [E.out]; rfl, XB.out⟩
end Go.Proofs.YtbmocghfpcfmhaaDoor

namespace Go.Proofs.YtbmocghfpcfmhaaDoor
open Go Go.RowKit

theorem or_powW (m s : Nat) : m * 2 ^ (s + 1) ||| 2 ^ s = m * 2 ^ (s + 1) + 2 ^ s := by
  have h := Nat.two_pow_add_eq_or_of_lt (i := s + 1) (b := 2 ^ s) (Nat.pow_lt_pow_right (by omega) (by omega)) m
  rw [Nat.mul_comm (2 ^ (s + 1)) m] at h
  exact h.symm
def WRel (n : Nat) (r P : Nat) : Prop := ∃ s m : Nat, P = 2 ^ s ∧ s ≤ 60 ∧ r = m * 2 ^ s ∧ r + P ≤ 2 ^ 60 ∧ r * r ≤ n ∧ n < (r + P) * (r + P)
theorem wroot_start {n : Nat} (h1 : n ≤ 2251799813685248) : WRel n 0 1152921504606846976 := ⟨60, 0, by decide, by omega, by simp, by decide, by simp, by omega⟩
theorem wroot_round {n : Nat} {r P : Nat} (h : WRel n r P) (hP : 1 < P) : ∃ Q : Nat, P = 2 * Q ∧ 0 < Q ∧ (r ||| Q = r + Q) ∧ r + Q < 1152921504606846976 ∧ r < 1152921504606846976 ∧ Q < 1152921504606846976 ∧
    ((r + Q) * (r + Q) ≤ n → WRel n (r + Q) Q) ∧ (n < (r + Q) * (r + Q) → WRel n r Q) := by
  obtain ⟨s, m, e1, e2, e3, e4, e5, e6⟩ := h
  rcases s with _ | s
  · simp at e1; omega
  have hpow : 2 ^ (s + 1) = 2 * 2 ^ s := by rw [Nat.pow_succ, Nat.mul_comm]
  have hq : 0 < 2 ^ s := Nat.two_pow_pos s
  have ho := or_powW m s
  rw [← e3] at ho
  have e3' : r = 2 * m * 2 ^ s := by rw [e3, hpow, ← Nat.mul_assoc, Nat.mul_comm m 2]
  have e3'' : r + 2 ^ s = (2 * m + 1) * 2 ^ s := by rw [e3', Nat.add_mul]; omega
  refine ⟨2 ^ s, by omega, hq, ho, by omega, by omega, by omega, fun h => ⟨s, 2 * m + 1, rfl, by omega, e3'', by omega, h, ?_⟩, fun h => ⟨s, 2 * m, rfl, by omega, e3', by omega, e5, h⟩⟩
  rw [show r + 2 ^ s + 2 ^ s = r + P by omega]
  exact e6
theorem wroot_end {n : Nat} {r : Nat} (h : WRel n r 1) : isq (n : Int) = r := by
  obtain ⟨s, m, e1, e2, e3, e4, e5, e6⟩ := h
  refine isq_uniq (by omega) (by omega) ?_ ?_
  · exact_mod_cast e5
  · exact_mod_cast e6
set_option maxRecDepth 100000 in
set_option maxHeartbeats 2000000 in
theorem wsroot_any (n : Nat) (w : World) (h1 : n ≤ 2251799813685248) : Calls Tryd.prog 36 #[WV (n : Int)] w (RetW (.tuple #[.int .i64 (isq (n : Int)), .int .i64 0]) w) := by
  have hB : wideB (n : Int) := ⟨by omega, by omega⟩
  have X := (Own.start w).alloc #[.int .i64 ((n : Int) / 1152921504606846976), .int .i64 ((n : Int) % 1152921504606846976)] 50
  have V := hide (fun W => wsvalid_any (n : Int) W hB)
  have U := hide (fun W => wsvalue_any (n : Int) W hB)
  have eN : WN (n : Int) = .agg #[.int .u64 0, .int .u64 (n : Int), .bool false] := by
    rw [WN_nat]
    have k : n < 18446744073709551616 := by omega
    unfold Nv
    rw [Nat.div_eq_of_lt k, Nat.mod_eq_of_lt k]
    rfl
  rw [eN] at U
  have ST := hide (wroot_start h1)
  have HN := hide h1
  unfold RetW at V U
  unfold WV at *
  generalize (n : Int) / 1152921504606846976 = v1 at *
  generalize (n : Int) % 1152921504606846976 = v2 at *
  clear hB eN h1
  go_enter Tryd.func36, Tryd.ntmps36
  go_wp2_with fail
  refine (V.out _).mono ?_
  rintro e w1 ⟨rfl, hb⟩
  replace X := X.to hb
  clear hb
  have hr := X.r1
  go_wp2_with fail
  refine (U.out _).mono ?_
  rintro e w2 ⟨rfl, hb⟩
  replace X := (X.to hb).alloc #[.int .u64 0, .int .u64 (n : Int), .bool false] 64
  clear hb hr
  have hr := X.r2
  have XB := hide X.1
  clear X V U
  go_wp2
  go_loop [5, 6] (fun v5 v6 => ∃ r P : Nat, v5 = .int .u64 (r : Int) ∧ v6 = .int .u64 ((P / 2 : Nat) : Int) ∧ Hid (WRel n r P)) (fun _ v6 => (intOf v6).toNat)
  case atStart => exact ⟨0, 1152921504606846976, rfl, rfl, ST⟩
  case round =>
    obtain ⟨r, P, rfl, rfl, hrel⟩ := hrel
    by_cases hP : 1 < P
    · obtain ⟨Q, rfl, hQ, ho, b1, b2, b3, k1, k2⟩ := wroot_round hrel.out hP
      have HO := u64_or_nat ho (by omega) (by omega)
      have e2 : ((2 * Q / 2 : Nat) : Int) = (Q : Int) := by omega
      rw [e2]
      have e3 : (Q : Int).fdiv (2 ^ min (Int.toNat 1) IntKind.u64.bits) = ((Q / 2 : Nat) : Int) := by
        have e : (2 : Int) ^ min (Int.toNat 1) IntKind.u64.bits = 2 := by decide
        rw [e, Int.fdiv_eq_ediv_of_nonneg _ (by omega)]
        omega
      obtain ⟨x, hx⟩ : ∃ x, x = r + Q := ⟨_, rfl⟩
      rw [← hx] at b1 k1 k2 HO
      obtain ⟨hh, hhh⟩ : ∃ hh, hh = x * x / 18446744073709551616 := ⟨_, rfl⟩
      obtain ⟨ll, hll⟩ : ∃ ll, ll = x * x % 18446744073709551616 := ⟨_, rfl⟩
      have MU := hide (fun W => Tryd.bits_Mul64 x x (by omega) (by omega) W)
      rw [← hhh, ← hll] at MU
      have hn := HN.out
      have ways : (hh = 0 ∧ ll ≤ n ∧ WRel n x Q) ∨ (hh = 0 ∧ ¬ ll ≤ n ∧ WRel n r Q) ∨ (0 < hh ∧ WRel n r Q) := by
        rcases Nat.eq_zero_or_pos hh with h0 | h0
        · have el : ll = x * x := by omega
          by_cases hl : ll ≤ n
          · exact .inl ⟨h0, hl, k1 (by omega)⟩
          · exact .inr (.inl ⟨h0, hl, k2 (by omega)⟩)
        · exact .inr (.inr ⟨h0, k2 (by omega)⟩)
      clear hrel ho k1 k2 hP e2 hhh hll b1 b2 b3 hn hx
      have Q0 : (0 : Int) < (Q : Int) := by omega
      rcases ways with ⟨h0, hl, K⟩ | ⟨h0, hl, K⟩ | ⟨h0, K⟩
      · subst h0
        have d1 : decide (ll ≤ n) = true := decide_eq_true hl
        have HK := hide K
        clear K hl
        go_wp2_with fail
        refine (MU.out _).mono ?_
        rintro e w' ⟨rfl, rfl⟩
        go_wp2
        go_round
        case rel => exact ⟨x, Q, by go_num, by go_num, HK⟩
        case measure => simp [intOf]; omega
      · subst h0
        have d1 : decide (ll ≤ n) = false := decide_eq_false hl
        have HK := hide K
        clear K hl
        go_wp2_with fail
        refine (MU.out _).mono ?_
        rintro e w' ⟨rfl, rfl⟩
        go_wp2
        go_round
        case rel => exact ⟨r, Q, by go_num, by go_num, HK⟩
        case measure => simp [intOf]; omega
      · have d1 : ((hh : Int) == 0) = false := beq_eq_false_iff_ne.2 (by omega)
        have d2 : ¬ (hh : Int) < 0 := by omega
        have HK := hide K
        clear K
        go_wp2_with fail
        refine (MU.out _).mono ?_
        rintro e w' ⟨rfl, rfl⟩
        go_wp2
        go_round
        case rel => exact ⟨r, Q, by go_num, by go_num, HK⟩
        case measure => simp [intOf]; omega
    · have e : P = 1 := by
        obtain ⟨s, m, e1, _⟩ := hrel.out
        have := Nat.two_pow_pos s
        omega
      subst e
      have E := hide (wroot_end hrel.out)
      have b : r ≤ 1152921504606846976 := by
        obtain ⟨s, m, _, _, _, e4, _⟩ := hrel.out
        omega
      have E4 : IntKind.i64.wrap (r : Int) = (r : Int) := IntWalk.i64_in _ (by omega)
      clear hrel
      go_wp2
      go_ret2
      exact ⟨by rw [E.out]; rfl, XB.out⟩
end Go.Proofs.YtbmocghfpcfmhaaDoor

namespace Go.Proofs.YtbmocghfpcfmhaaDoor
open Go Go.RowKit

/-- the corners of a face, with their levels -/
def cnV (l : List Spt) (f : Fce) : Array Value := #[.int .i64 (spA l f.a).x, .int .i64 (spA l f.a).y, .int .i64 (spA l f.a).z, .int .i64 (spA l f.b).x, .int .i64 (spA l f.b).y, .int .i64 (spA l f.b).z, .int .i64 (spA l f.c).x, .int .i64 (spA l f.c).y, .int .i64 (spA l f.c).z]
theorem spA_nat {l : List Spt} {i : Int} (h : 0 ≤ i ∧ i < l.length) : ∃ k : Nat, ∃ hk : k < l.length, i = (k : Int) ∧ spA l i = l[k] := by
  refine ⟨i.toNat, by omega, by omega, ?_⟩
  have hk : i.toNat < l.length := by omega
  simp [spA, hk]
set_option maxRecDepth 100000 in
set_option maxHeartbeats 4000000 in
theorem lccorners_any (m : Msh) (a : MshA) (i : Nat) (w : World) (hm : MshSl w m a) (hi : i < m.fs.length) (hk : OkF m.ss m.fs[i]) :
    Calls Tryd.prog 85 #[m.val a, .int .i64 (i : Int)] w (RetW (.agg (cnV m.ss m.fs[i])) w) := by
  obtain ⟨A1, c1, A2, c2⟩ := a
  have hlen : m.ss.length ≤ 9223372036854775807 := hm.1.1.1
  have hlen2 : m.fs.length ≤ 9223372036854775807 := hm.2.1.1
  obtain ⟨ka, hka, ea, sa⟩ := spA_nat hk.a
  obtain ⟨kb, hkb, eb, sb⟩ := spA_nat hk.b
  obtain ⟨kc, hkc, ec, sc⟩ := spA_nat hk.c
  obtain ⟨b, off, e, hbl, hat⟩ := hm.1.2 (by omega)
  have e' : A1 = some ⟨b, off, none⟩ := e
  subst e'
  obtain ⟨b', off', e, hbl', hat'⟩ := hm.2.2 (by omega)
  have e' : A2 = some ⟨b', off', none⟩ := e
  subst e'
  obtain ⟨f0, f1, f2, f3⟩ := hat' i hi
  obtain ⟨x0, y0, z0⟩ := hat ka hka
  obtain ⟨x1, y1, z1⟩ := hat kb hkb
  obtain ⟨x2, y2, z2⟩ := hat kc hkc
  unfold cnV
  rw [sa, sb, sc]
  rw [ea] at f0
  rw [eb] at f1
  rw [ec] at f2
  have X := ((Own.start w).alloc #[.slice (some ⟨b, off, none⟩) m.ss.length c1, .slice (some ⟨b', off', none⟩) m.fs.length c2] 41).alloc #[.int .i64 0, .int .i64 0, .int .i64 0, .int .i64 0, .int .i64 0, .int .i64 0, .int .i64 0, .int .i64 0, .int .i64 0] 141
  replace X := X.alloc #[.int .i64 (ka : Int), .int .i64 (kb : Int), .int .i64 (kc : Int), .int .i64 (m.fs[i]).k] 38
  simp only [World.size_alloc] at X
  generalize m.ss[ka] = s0 at *
  generalize m.ss[kb] = s1 at *
  generalize m.ss[kc] = s2 at *
  generalize (m.fs[i]).k = fk at *
  have g0 : (0 : Int) ≤ (i : Int) := by omega
  have g1 : (i : Int) < (m.fs.length : Int) := by omega
  have a0 : (0 : Int) ≤ (ka : Int) := by omega
  have a1 : (ka : Int) < (m.ss.length : Int) := by omega
  have b0 : (0 : Int) ≤ (kb : Int) := by omega
  have b1 : (kb : Int) < (m.ss.length : Int) := by omega
  have q0 : (0 : Int) ≤ (kc : Int) := by omega
  have q1 : (kc : Int) < (m.ss.length : Int) := by omega
  clear hat hat' hm hk ea eb ec sa sb sc hka hkb hkc hi
  have n1 : ¬ (b' = w.heap.size) := by omega
  have n2 : ¬ (b' = w.heap.size + 1) := by omega
  have n3 : w.heap.size < w.heap.size + 1 + 1 := by omega
  have NE := ownw_ne X
  have C1 := ownw_r3 X
  have D0 := ownw_old X hbl x0
  have D1 := ownw_old X hbl y0
  have D2 := ownw_old X hbl z0
  have D3 := ownw_old X hbl x1
  have D4 := ownw_old X hbl y1
  have D5 := ownw_old X hbl z1
  have D6 := ownw_old X hbl x2
  have D7 := ownw_old X hbl y2
  have D8 := ownw_old X hbl z2
  go_enter Tryd.func85, Tryd.ntmps85
  go_wp2
  refine wp_region_own_tail (w := w) 19 (by kernel_rfl) (by kernel_rfl) X ?_
  simp only [List.take_succ_cons, List.take_zero, List.drop_succ_cons, List.drop_zero]
  repeat (go_big_quiet_step (fail))
  refine wpQuiet_nil ?_
  rintro W ⟨⟨W, HO⟩, rfl⟩
  have hr := HO.r3
  go_wp2
  refine bodyPost_ret (v := .agg #[.int .i64 s0.x, .int .i64 s0.y, .int .i64 s0.z, .int .i64 s1.x, .int .i64 s1.y, .int .i64 s1.z, .int .i64 s2.x, .int .i64 s2.y, .int .i64 s2.z]) (by simp [results, Tryd.results85, hr, go_sem]) rfl ⟨rfl, ?_⟩
  have HB := HO.1
  have hz := HB.size
  go_grown
set_option maxHeartbeats 1000000 in
theorem lcat_any (s : Spt) (w : World) : Calls Tryd.prog 87 #[s.val] w (RetW s.pt.val w) := by
  have X := ((Own.start w).alloc #[.int .i64 s.x, .int .i64 s.y, .int .i64 s.z] 35).alloc #[.int .i64 0, .int .i64 0] 44
  simp only [World.size_alloc] at X
  have hr := X.r2
  have XB := hide X.1
  show Calls _ _ _ _ (RetW (.agg #[.int .i64 s.x, .int .i64 s.y]) w)
  go_enter Tryd.func87, Tryd.ntmps87
  go_wp2
  exact bodyPost_ret (v := .agg #[.int .i64 s.x, .int .i64 s.y]) (by simp [results, Tryd.results87, go_sem]) rfl ⟨rfl, by have HX := XB.out; have hz := HX.size; go_grown⟩
set_option maxHeartbeats 1000000 in
theorem lcturn_any (a b c : Pnt) (w : World) (ha : a.in) (hb : b.in) (hc : c.in) : Calls Tryd.prog 86 #[a.val, b.val, c.val] w (RetW (.int .i64 (trn a b c)) w) := by
  have X := (((Own.start w).alloc #[.int .i64 a.x, .int .i64 a.y] 44).alloc #[.int .i64 b.x, .int .i64 b.y] 44).alloc #[.int .i64 c.x, .int .i64 c.y] 44
  simp only [World.size_alloc] at X
  have hr := X.r3
  have XB := hide X.1
  obtain ⟨m1, m2⟩ := trn_bd ha hb hc
  obtain ⟨⟨a1, a2⟩, a3, a4⟩ := ha
  obtain ⟨⟨b1, b2⟩, b3, b4⟩ := hb
  obtain ⟨⟨c1, c2⟩, c3, c4⟩ := hc
  have E : Hid (trn a b c = (b.x - a.x) * (c.y - a.y) - (b.y - a.y) * (c.x - a.x)) := hide rfl
  generalize trn a b c = t at *
  have e1 := IntWalk.i64_in (b.x - a.x) (by omega)
  have e2 := IntWalk.i64_in (c.y - a.y) (by omega)
  have e3 := IntWalk.i64_in (b.y - a.y) (by omega)
  have e4 := IntWalk.i64_in (c.x - a.x) (by omega)
  obtain ⟨p, hp⟩ : ∃ p, p = (b.x - a.x) * (c.y - a.y) := ⟨_, rfl⟩
  obtain ⟨q, hq⟩ : ∃ q, q = (b.y - a.y) * (c.x - a.x) := ⟨_, rfl⟩
  rw [← hp, ← hq] at E
  rw [← hp] at m1
  rw [← hq] at m2
  have w1 : IntKind.i64.wrap ((b.x - a.x) * (c.y - a.y)) = p := by rw [← hp]; exact IntWalk.i64_in _ (by omega)
  have w2 : IntKind.i64.wrap ((b.y - a.y) * (c.x - a.x)) = q := by rw [← hq]; exact IntWalk.i64_in _ (by omega)
  have w3 := IntWalk.i64_in (p - q) (by omega)
  clear hp hq X
  go_enter Tryd.func86, Tryd.ntmps86
  go_wp2
  go_ret
  exact ⟨by rw [E.out]; rfl, XB.out⟩
end Go.Proofs.YtbmocghfpcfmhaaDoor

namespace Go.Proofs.YtbmocghfpcfmhaaDoor
open Go Go.RowKit

/-- the first side on the right of which a point is -/
def otA (t : Tri) (p : Pnt) : Int := if trn t.p t.q p < 0 then 0 else if trn t.q t.r p < 0 then 1 else if trn t.r t.p p < 0 then 2 else -1
theorem otA_on (t : Tri) (p : Pnt) : otA t p < 0 ↔ onB t p = true := by
  simp only [otA, onB, Bool.and_eq_true, decide_eq_true_eq]
  split
  · omega
  · split
    · omega
    · split <;> omega
abbrev cnC (s t u : Spt) : Array Value := #[.int .i64 s.x, .int .i64 s.y, .int .i64 s.z, .int .i64 t.x, .int .i64 t.y, .int .i64 t.z, .int .i64 u.x, .int .i64 u.y, .int .i64 u.z]
set_option maxRecDepth 100000 in
set_option maxHeartbeats 8000000 in
theorem lcouter_any (m : Msh) (a : MshA) (i : Nat) (p : Pnt) (w : World) (hm : MshSl w m a) (hi : i < m.fs.length) (hk : OkF m.ss m.fs[i]) (hp : p.in) :
    Calls Tryd.prog 93 #[m.val a, .int .i64 (i : Int), p.val] w (RetW (.int .i64 (otA (triA m.ss m.fs[i]) p)) w) := by
  have CR := hide (fun W h => lccorners_any m a i W h hi hk)
  have HM := hide hm
  unfold cnV RetW at CR
  have E : Hid (otA (triA m.ss m.fs[i]) p = otA ⟨(spA m.ss m.fs[i].a).pt, (spA m.ss m.fs[i].b).pt, (spA m.ss m.fs[i].c).pt⟩ p) := hide rfl
  have T0 := hide (fun W => lcturn_any (spA m.ss m.fs[i].a).pt (spA m.ss m.fs[i].b).pt p W hk.i.1 hk.i.2.1 hp)
  have T1 := hide (fun W => lcturn_any (spA m.ss m.fs[i].b).pt (spA m.ss m.fs[i].c).pt p W hk.i.2.1 hk.i.2.2 hp)
  have T2 := hide (fun W => lcturn_any (spA m.ss m.fs[i].c).pt (spA m.ss m.fs[i].a).pt p W hk.i.2.2 hk.i.1 hp)
  rw [E.out]
  clear hm hk hp E
  generalize spA m.ss m.fs[i].a = s at *
  generalize spA m.ss m.fs[i].b = t at *
  generalize spA m.ss m.fs[i].c = u at *
  have A0 := hide (fun W => lcat_any s W)
  have A1 := hide (fun W => lcat_any t W)
  have A2 := hide (fun W => lcat_any u W)
  unfold RetW at T0 T1 T2 A0 A1 A2
  have E : Hid (otA ⟨s.pt, t.pt, u.pt⟩ p = if trn s.pt t.pt p < 0 then 0 else if trn t.pt u.pt p < 0 then 1 else if trn u.pt s.pt p < 0 then 2 else -1) := hide rfl
  rw [E.out]
  clear E
  obtain ⟨R, hR⟩ : ∃ R : Int, R = if trn s.pt t.pt p < 0 then 0 else if trn t.pt u.pt p < 0 then 1 else if trn u.pt s.pt p < 0 then 2 else -1 := ⟨_, rfl⟩
  rw [← hR]
  replace hR := hide hR
  generalize trn s.pt t.pt p = n0 at *
  generalize trn t.pt u.pt p = n1 at *
  generalize trn u.pt s.pt p = n2 at *
  obtain ⟨A1', c1, A2', c2⟩ := a
  have X := ((Own.start w).alloc #[.slice A1' m.ss.length c1, .slice A2' m.fs.length c2] 41).alloc #[.int .i64 p.x, .int .i64 p.y] 44
  simp only [World.size_alloc] at X
  have hr := X.r2
  unfold Spt.pt at *
  obtain ⟨sx, sy, sz⟩ := s
  obtain ⟨tx, ty, tz⟩ := t
  obtain ⟨ux, uy, uz⟩ := u
  simp only at *
  go_enter Tryd.func93, Tryd.ntmps93
  go_wp2_with fail
  refine (CR.out _ (HM.out.below X.1)).mono ?_
  rintro e w1 ⟨rfl, hb⟩
  have HX := hide ((X.to hb).alloc #[.int .i64 sx, .int .i64 sy, .int .i64 sz, .int .i64 tx, .int .i64 ty, .int .i64 tz, .int .i64 ux, .int .i64 uy, .int .i64 uz] 141)
  clear hb hr X CR HM
  have hr := HX.out.r3
  go_wp2
  go_loopw [12] (fun v12 wr => ∃ k : Nat, k ≤ 3 ∧ v12 = .int .i64 k ∧ Hid (Own w wr [(w1.heap.size, 141, #[.int .i64 sx, .int .i64 sy, .int .i64 sz, .int .i64 tx, .int .i64 ty, .int .i64 tz, .int .i64 ux, .int .i64 uy, .int .i64 uz]), (w.heap.size + 1, 44, #[.int .i64 p.x, .int .i64 p.y]), (w.heap.size, 41, #[.slice A1' m.ss.length c1, .slice A2' m.fs.length c2])]) ∧ Hid ((0 < k → ¬ n0 < 0) ∧ (1 < k → ¬ n1 < 0) ∧ (2 < k → ¬ n2 < 0))) (fun v _ => 3 - (intOf v).toNat)
  case atStart => exact ⟨0, by omega, rfl, HX, hide ⟨by omega, by omega, by omega⟩⟩
  case round =>
    obtain ⟨k, hk, rfl, HX, HN⟩ := hrel
    have hr := HX.out.r3
    have NE := ownw_ne HX.out
    have C1 := ownw_r3 HX.out
    obtain rfl | rfl | rfl | rfl : k = 0 ∨ k = 1 ∨ k = 2 ∨ k = 3 := by omega
    · have s1 : IntKind.i64.wrap 1 = 1 := by decide
      have s2 : (1 : Int).tmod 3 = 1 := by decide
      go_upto_region 5 with (fail)
      refine wp_region_own (w := w) (by kernel_rfl) (by kernel_rfl) HX.out ?_
      repeat (go_big_quiet_step ((rename_i y; first | with_reducible exact own_call (A0.out _) | with_reducible exact own_call (A1.out _) | with_reducible exact own_call (A2.out _) | with_reducible exact own_call (T0.out _))))
      refine wpQuiet_nil ?_
      rintro _ ⟨⟨W, HW⟩, rfl⟩
      have HX2 := hide HW
      clear NE C1 HW hr
      by_cases h : n0 < 0
      · have HB := hide HX2.out.1
        have EQ : Hid (R = 0) := hide (by
          have := HN.out
          rw [hR.out, if_pos h])
        go_wp2
        go_ret
        exact ⟨ret_int EQ.out.symm, HB.out⟩
      · have HN2 : Hid ((0 < 1 → ¬ n0 < 0) ∧ (1 < 1 → ¬ n1 < 0) ∧ (2 < 1 → ¬ n2 < 0)) := hide (by
          have := HN.out
          exact ⟨by omega, by omega, by omega⟩)
        go_wp2
        go_roundw
        case rel => exact ⟨1, by omega, by go_num, HX2, HN2⟩
        case measure => simp [intOf]
    · have s1 : IntKind.i64.wrap 2 = 2 := by decide
      have s2 : (2 : Int).tmod 3 = 2 := by decide
      go_upto_region 5 with (fail)
      refine wp_region_own (w := w) (by kernel_rfl) (by kernel_rfl) HX.out ?_
      repeat (go_big_quiet_step ((rename_i y; first | with_reducible exact own_call (A0.out _) | with_reducible exact own_call (A1.out _) | with_reducible exact own_call (A2.out _) | with_reducible exact own_call (T1.out _))))
      refine wpQuiet_nil ?_
      rintro _ ⟨⟨W, HW⟩, rfl⟩
      have HX2 := hide HW
      clear NE C1 HW hr
      by_cases h : n1 < 0
      · have HB := hide HX2.out.1
        have EQ : Hid (R = 1) := hide (by
          have := HN.out
          rw [hR.out, if_neg (this.1 (by omega)), if_pos h])
        go_wp2
        go_ret
        exact ⟨ret_int EQ.out.symm, HB.out⟩
      · have HN2 : Hid ((0 < 2 → ¬ n0 < 0) ∧ (1 < 2 → ¬ n1 < 0) ∧ (2 < 2 → ¬ n2 < 0)) := hide (by
          have := HN.out
          exact ⟨by omega, by omega, by omega⟩)
        go_wp2
        go_roundw
        case rel => exact ⟨2, by omega, by go_num, HX2, HN2⟩
        case measure => simp [intOf]
    · have s1 : IntKind.i64.wrap 3 = 3 := by decide
      have s2 : (3 : Int).tmod 3 = 0 := by decide
      go_upto_region 5 with (fail)
      refine wp_region_own (w := w) (by kernel_rfl) (by kernel_rfl) HX.out ?_
      repeat (go_big_quiet_step ((rename_i y; first | with_reducible exact own_call (A0.out _) | with_reducible exact own_call (A1.out _) | with_reducible exact own_call (A2.out _) | with_reducible exact own_call (T2.out _))))
      refine wpQuiet_nil ?_
      rintro _ ⟨⟨W, HW⟩, rfl⟩
      have HX2 := hide HW
      clear NE C1 HW hr
      by_cases h : n2 < 0
      · have HB := hide HX2.out.1
        have EQ : Hid (R = 2) := hide (by
          have := HN.out
          rw [hR.out, if_neg (this.1 (by omega)), if_neg (this.2.1 (by omega)), if_pos h])
        go_wp2
        go_ret
        exact ⟨ret_int EQ.out.symm, HB.out⟩
      · have HN2 : Hid ((0 < 3 → ¬ n0 < 0) ∧ (1 < 3 → ¬ n1 < 0) ∧ (2 < 3 → ¬ n2 < 0)) := hide (by
          have := HN.out
          exact ⟨by omega, by omega, by omega⟩)
        go_wp2
        go_roundw
        case rel => exact ⟨3, by omega, by go_num, HX2, HN2⟩
        case measure => simp [intOf]
    · have EQ : Hid (R = -1) := hide (by
        have := HN.out
        rw [hR.out, if_neg (this.1 (by omega)), if_neg (this.2.1 (by omega)), if_neg (this.2.2 (by omega))])
      have HB := hide HX.out.1
      clear NE C1
      go_wp2
      go_ret
      exact ⟨ret_int EQ.out.symm, HB.out⟩
end Go.Proofs.YtbmocghfpcfmhaaDoor

namespace Go.Proofs.YtbmocghfpcfmhaaDoor
open Go.RowKit Go.ChangeShapes Go.WideShapes Go.ChangeAt

theorem own : ownKnob Tryd.prog.godebug = none := by kernel_rfl
theorem laidOut : laidOutB Tryd.prog = true := by kernel_rfl
section
variable {H : Type} {enc : TypeId × Value → H} {P : Program}
theorem trodAll_stays (hl : laidOutB P = true) {W W' : World} {sp : Nat → Bool} (hb : Below W.heap.size W W') :
    ∀ (ts : List TypeId) (vs : List Value) (ds : List (DataW H)) (ps : List MemPlace), ts.all (fun t => P.readableRec t && decide (t < P.types.size)) = true →
      DataW.TrodAll enc P W 0 (fun _ => true) true ts vs ds ps → (∀ p ∈ ps, p.block < W.heap.size) → (∀ p ∈ ps, sp p.block = true) → DataW.TrodAll enc P W' 0 sp true ts vs ds ps
  | [], vs, ds, ps, _, h, _, _ => by obtain ⟨rfl, rfl, rfl⟩ := trodAll_nil h; exact trodAll_mk0
  | t :: ts, vs, ds, ps, hr, h, hlt, hsp => by
    obtain ⟨v, vs', d, ds', p, q, rfl, rfl, rfl, h1, h2⟩ := trodAll_cons h
    simp only [List.all_cons, Bool.and_eq_true, decide_eq_true_eq] at hr
    exact trodAll_cons_mk (WideElems.Trod_stays hl hr.1.1 hr.1.2 h1 (fun x hx => hb.same (hlt x (by simp [hx]))) (fun x hx => hsp x (by simp [hx])))
      (trodAll_stays hl hb ts vs' ds' q hr.2 h2 (fun x hx => hlt x (by simp [hx])) (fun x hx => hsp x (by simp [hx])))
theorem trodAll_length : ∀ {w : World} {base : Nat} {sp : Nat → Bool} {hd : Bool} (ts : List TypeId) (vs : List Value) (ds : List (DataW H)) (ps : List MemPlace), DataW.TrodAll enc P w base sp hd ts vs ds ps → ds.length = ts.length
  | _, _, _, _, [], vs, ds, ps, h => by obtain ⟨rfl, rfl, rfl⟩ := trodAll_nil h; rfl
  | _, _, _, _, t :: ts, vs, ds, ps, h => by
    obtain ⟨v, vs', d, ds', p, q, rfl, rfl, rfl, h1, h2⟩ := trodAll_cons h
    simp [trodAll_length ts vs' ds' q h2]
theorem law_post {fn : Func} {s : ChangeSpec} {W W' : World} {args : Array Value} {ds gs : List (DataW H)} {before : List MemPlace} (hl : laidOutB P = true)
    (hread : fn.params.toList.all (fun t => P.readableRec t && decide (t < P.types.size)) = true) (hv : s.vars = []) (tb : TypeId) (hres : fn.resultTypes = #[tb]) (htb : P.underlying tb = some .bool)
    (hspec : ∀ ds : List (DataW H), ds.length = fn.params.size → s.fn H (ds ++ []) = { results := [.lit (.bool true)], args := ds })
    (hW : DataW.Whole enc P fn.params.toList s.vars false W args.toList ds gs before) (hb : Below W.heap.size W W') : s.post enc P fn false true false false W args (.bool true) W' := by
  have hW' := hW
  obtain ⟨p, q, hA, hV, hpq, _, _⟩ := hW
  rw [hv] at hV
  obtain ⟨rfl, rfl⟩ := trodVars_none hV
  have hlen : ds.length = fn.params.size := by simpa using trodAll_length _ _ _ _ hA
  have e := hspec ds hlen
  simp only [List.append_nil] at hpq
  subst hpq
  refine post_of_below (pa := before) (pv := []) hW' ?_ ?_ ?_ (by simp) hb ?_
  · intro b sp hd
    rw [e, hres]
    exact trodAll_mk1 (shut_bool htb true)
  · intro sp hsp
    rw [e]
    exact trodAll_stays hl hb _ _ _ _ hread hA (fun x hx => hW'.lt x hx) hsp
  · intro sp _
    rw [hv, e]
    rfl
  · exact ok_one hres rfl (okWide_bool_mk htb true)
end
end Go.Proofs.YtbmocghfpcfmhaaDoor

namespace Go.Proofs.YtbmocghfpcfmhaaDoor
open Go Go.RowKit Go.WideMaps

theorem wf_i64 {n : Int} (h : i64 n) : (Lit.int .i64 n).wf = true := by
  unfold i64 at h
  simp [Lit.wf, IntKind.min, IntKind.max, IntKind.signed, IntKind.bits]
  omega
theorem pt_keyed : Maps.Keyed Tryd.prog 44 := Maps.Keyed.of_law (deep_law_gate laidOut (of_decide_eq_true (by kernel_rfl)) (of_decide_eq_true (by kernel_rfl)) (by kernel_rfl) (by kernel_rfl))
theorem sd_keyed : Maps.Keyed Tryd.prog 106 := Maps.Keyed.of_law (deep_law_gate laidOut (of_decide_eq_true (by kernel_rfl)) (of_decide_eq_true (by kernel_rfl)) (by kernel_rfl) (by kernel_rfl))
theorem types_pos : ∃ m, Tryd.prog.types.size = m + 1 := Nat.exists_eq_succ_of_ne_zero (fun e => by
  have : (Tryd.prog.types.size == 0) = false := by kernel_rfl
  rw [e] at this
  cases this)
theorem int_key (d : Nat) {n : Int} (h : i64 n) : Tryd.prog.keyLits (d + 1) 3 [.int .i64 n] = some [.int .i64 n] := by
  unfold Program.keyLits
  rw [Tryd.underlying3]
  simp [wf_i64 h]
theorem pt_key (p : Pnt) (hx : i64 p.x) (hy : i64 p.y) : keyOf Tryd.prog 44 p.val = some (.string (keyBytes [.int .i64 p.x, .int .i64 p.y])) := by
  have hkt : Tryd.prog.keyType 44 = true := by kernel_rfl
  have hc : Tryd.prog.cellsOf 44 = 2 := by kernel_rfl
  have hi : Tryd.prog.cellsOf 3 = 1 := by kernel_rfl
  obtain ⟨m, hm⟩ := types_pos
  unfold keyOf
  simp only [Tryd.underlying44]
  rw [if_pos (by simp [hkt, Value.formed, Tryd.underlying44, hc]), hm]
  obtain ⟨m', rfl⟩ : ∃ m', m = m' + 1 := Nat.exists_eq_succ_of_ne_zero (fun e => by
    have : (Tryd.prog.types.size == 1) = false := by kernel_rfl
    rw [hm, e] at this
    cases this)
  unfold Program.keyLits
  simp only [Tryd.underlying44, Value.cells]
  rw [if_pos (by rw [hc]; exact ⟨rfl, by kernel_rfl⟩)]
  have e1 := int_key (m' + 1) hx
  have e2 := int_key (m' + 1) hy
  simp [hi, e1, e2]
theorem sd_key (a b : Int) (hx : i64 a) (hy : i64 b) : keyOf Tryd.prog 106 (.agg #[.int .i64 a, .int .i64 b]) = some (.string (keyBytes [.int .i64 a, .int .i64 b])) :=
  keyOf_pair (e := 3) ⟨Tryd.underlying106, by kernel_rfl, by kernel_rfl, by kernel_rfl⟩ Tryd.underlying3 types_pos (wf_i64 hx) (wf_i64 hy)
/-- an element that reads as a bool is that bool -/
theorem plainBool_inv {e : TypeId} (he : Tryd.prog.underlying e = some .bool) {v : Value} {z : DataW Unit × List MemPlace} (h : plainElem Tryd.prog e v = some z) : ∃ b, v = .bool b ∧ z = (.lit (.bool b), []) := by
  unfold plainElem at h
  rw [he] at h
  cases v <;> simp at h
  exact ⟨_, rfl, h.symm⟩
abbrev MapB (W : World) (k b n : Nat) (D : DataW Unit) : Prop := W.ownsMap Tryd.prog k (plainElem (H := Unit) Tryd.prog 4) b n D
theorem zero_bool (W : World) : (zeroValue 4).run Tryd.prog W = .ok (.bool false) W := Tryd.zeroValue4 W
theorem MapB.look {W : World} {k t b n : Nat} {D : DataW Unit} (h : MapB W k b n D) (K : Maps.Keyed Tryd.prog k) (ht : Tryd.prog.underlying t = some (.map k 4)) {key : Value} {kl : Lit} (hkey : keyOf Tryd.prog k key = some kl) :
    ∃ c : Bool, (Instr.lookup t (.map (some b)) key false).run Tryd.prog W = .ok (.bool c) W ∧ D.atKey kl (.lit (.bool false)) = .lit (.bool c) := by
  obtain ⟨v, ps, hrun, hv⟩ := World.ownsMap.lookup h K ht (zero_bool W) (Go.plainElem_bool Tryd.underlying4 false) hkey
  obtain ⟨c, rfl, hc⟩ := plainBool_inv Tryd.underlying4 hv
  simp only [Prod.mk.injEq] at hc
  exact ⟨c, hrun, hc.1⟩
/-- the map says yes at just these keys -/
def Says (D : DataW Unit) (key : Lit → Prop) : Prop := Maps.IsMap D ∧ ∀ l, WideAt.IsKeyLit l → ∃ c : Bool, D.atKey l (.lit (.bool false)) = .lit (.bool c) ∧ (c = true ↔ key l)
theorem Says.empty : Says (.map []) (fun _ => False) := ⟨⟨[], rfl⟩, fun l _ => ⟨false, rfl, by simp⟩⟩
theorem Says.put {D : DataW Unit} {key : Lit → Prop} (h : Says D key) {k : Lit} (hk : WideAt.IsKeyLit k) : Says (D.put k (.lit (.bool true))) (fun l => l = k ∨ key l) := by
  refine ⟨h.1.put k _, fun l hl => ?_⟩
  by_cases e : l = k
  · subst e
    exact ⟨true, Maps.atKey_put_same h.1 hl _ _, by simp⟩
  · obtain ⟨c, h1, h2⟩ := h.2 l hl
    exact ⟨c, (Maps.atKey_put_other e _ _).trans h1, by simp [e, h2]⟩
theorem MapB.says {W : World} {k t b n : Nat} {D : DataW Unit} {key : Lit → Prop} (h : MapB W k b n D) (K : Maps.Keyed Tryd.prog k) (ht : Tryd.prog.underlying t = some (.map k 4)) (hs : Says D key) {kv : Value} {kl : Lit} (hkey : keyOf Tryd.prog k kv = some kl) :
    ∃ c : Bool, (Instr.lookup t (.map (some b)) kv false).run Tryd.prog W = .ok (.bool c) W ∧ (c = true ↔ key kl) := by
  obtain ⟨c, h1, h2⟩ := h.look K ht hkey
  obtain ⟨c', h3, h4⟩ := hs.2 kl (K.key hkey)
  rw [h3] at h2
  injection h2 with h2
  injection h2 with h2
  subst h2
  exact ⟨c', h1, h4⟩
end Go.Proofs.YtbmocghfpcfmhaaDoor

namespace Go.Proofs.YtbmocghfpcfmhaaDoor
open Go Go.RowKit

theorem below_go {a w w' : World} (h : Below a.heap.size a w) (k : Below w.heap.size w w') : Below a.heap.size a w' := below_via h h.size k
set_option maxRecDepth 100000 in
set_option maxHeartbeats 4000000 in
theorem mstri_any (m : Msh) (a : MshA) (f : Fce) (w : World) (hm : MshSl w m a) (ha : 0 ≤ f.a ∧ f.a < m.ss.length) (hb : 0 ≤ f.b ∧ f.b < m.ss.length) (hc : 0 ≤ f.c ∧ f.c < m.ss.length) :
    Calls Tryd.prog 50 #[m.val a, f.val] w (RetW (.agg (triA m.ss f).cells.toArray) w) := by
  have X := (((Own.start w).alloc (m.cells a) 41).alloc #[.int .i64 f.a, .int .i64 f.b, .int .i64 f.c, .int .i64 f.k] 38).alloc #[.int .i64 0, .int .i64 0, .int .i64 0, .int .i64 0, .int .i64 0, .int .i64 0] 103
  simp only [World.size_alloc] at X
  have HM := hide hm
  obtain ⟨A1, c1, A2, c2⟩ := a
  have PA := hide (fun W h => mspoint_any m ⟨A1, c1, A2, c2⟩ f.a W h ha.1 ha.2)
  have PB := hide (fun W h => mspoint_any m ⟨A1, c1, A2, c2⟩ f.b W h hb.1 hb.2)
  have PC := hide (fun W h => mspoint_any m ⟨A1, c1, A2, c2⟩ f.c W h hc.1 hc.2)
  have et : Hid ((triA m.ss f).cells = [.int .i64 (spA m.ss f.a).pt.x, .int .i64 (spA m.ss f.a).pt.y, .int .i64 (spA m.ss f.b).pt.x, .int .i64 (spA m.ss f.b).pt.y, .int .i64 (spA m.ss f.c).pt.x, .int .i64 (spA m.ss f.c).pt.y]) := hide rfl
  generalize (triA m.ss f).cells = tc at *
  generalize (spA m.ss f.a).pt = p at *
  generalize (spA m.ss f.b).pt = q at *
  generalize (spA m.ss f.c).pt = r at *
  unfold RetW at PA PB PC
  clear hm ha hb hc
  go_enter Tryd.func50, Tryd.ntmps50
  go_wp2
  generalize (((w.alloc (.cells #[.slice A1 m.ss.length c1, .slice A2 m.fs.length c2] 41)).alloc (.cells #[.int .i64 f.a, .int .i64 f.b, .int .i64 f.c, .int .i64 f.k] 38)).alloc (.cells #[.int .i64 0, .int .i64 0, .int .i64 0, .int .i64 0, .int .i64 0, .int .i64 0] 103)) = W at *
  have hr := X.r3
  have HX := hide X
  have HMW := hide (fun W' (h : Below W.heap.size W W') => HM.out.below (below_via HX.out.1 HX.out.1.size h))
  have KC := hide (fun W' (h : Below W.heap.size W W') => And.intro ((h.cell (p := ⟨w.heap.size, 0, none⟩) hr.2.2.2.2).trans (hr.2.2.1 0)) (And.intro ((h.cell (p := ⟨w.heap.size, 1, none⟩) hr.2.2.2.2).trans (hr.2.2.1 1))
    (And.intro ((h.cell (p := ⟨w.heap.size + 1, 0, none⟩) hr.2.1.2.2).trans (hr.2.1.1 0)) (And.intro ((h.cell (p := ⟨w.heap.size + 1, 1, none⟩) hr.2.1.2.2).trans (hr.2.1.1 1)) ((h.cell (p := ⟨w.heap.size + 1, 2, none⟩) hr.2.1.2.2).trans (hr.2.1.1 2))))))
  clear X
  have n1 : ¬ (w.heap.size = w.heap.size + 1 + 1) := by omega
  have n2 : ¬ (w.heap.size + 1 + 1 = w.heap.size) := by omega
  go_region_held3 (fun w' => w'.cell? ⟨w.heap.size, 0, none⟩ = some (.slice A1 m.ss.length c1) ∧ w'.cell? ⟨w.heap.size, 1, none⟩ = some (.slice A2 m.fs.length c2) ∧ w'.cell? ⟨w.heap.size + 1, 0, none⟩ = some (.int .i64 f.a) ∧ w'.cell? ⟨w.heap.size + 1, 1, none⟩ = some (.int .i64 f.b) ∧ w'.cell? ⟨w.heap.size + 1, 2, none⟩ = some (.int .i64 f.c)) (go_keep)
    (first
      | (go_at_call 46; (first | (with_reducible refine Calls.mono (PA.out _ (HMW.out _ (by go_grown))) ?_) | (with_reducible refine Calls.mono (PB.out _ (HMW.out _ (by go_grown))) ?_) | (with_reducible refine Calls.mono (PC.out _ (HMW.out _ (by go_grown))) ?_)); (rintro e w1 ⟨rfl, hb⟩); have hw := below_go (show Below W.heap.size W _ from by go_grown) hb; have hr2 := (HX.out.to hw).r3; obtain ⟨q1, q2, q3, q4, q5⟩ := KC.out _ hw))
  all_goals
    have XB := hide (HX.out.to hw).1
    go_wp2
    exact bodyPost_ret (v := .agg #[.int .i64 p.x, .int .i64 p.y, .int .i64 q.x, .int .i64 q.y, .int .i64 r.x, .int .i64 r.y]) (by simp [results, Tryd.results50, hr2, go_sem]) rfl ⟨by rw [et.out], by have HX := XB.out; have hz := HX.size; go_grown⟩
end Go.Proofs.YtbmocghfpcfmhaaDoor

namespace Go.Proofs.YtbmocghfpcfmhaaDoor
open Go Go.RowKit

theorem own_two {w W : World} {L : List (Nat × TypeId × Array Value)} {a b : Array Value} {s t : TypeId} (h : Own w W L) : Own w ((W.alloc (.cells a s)).alloc (.cells b t)).drew ((W.heap.size, s, a) :: (W.heap.size + 1, t, b) :: L) := by
  have Z := ((h.alloc a s).alloc b t).drew.swap
  rw [World.size_alloc] at Z
  exact Z
def sdK (t : Tri) : Nat → Pnt × Pnt
  | 0 => (t.p, t.q)
  | 1 => (t.q, t.r)
  | _ => (t.r, t.p)
theorem sep_yes {t u : Tri} {k : Nat} (hk : k < 3) (h : rgt (sdK t k).1 (sdK t k).2 u = true) : sepB t u = true := by
  unfold sepB
  obtain rfl | rfl | rfl : k = 0 ∨ k = 1 ∨ k = 2 := by omega
  all_goals simp only [sdK] at h; simp [h]
theorem sep_no {t u : Tri} (h : ∀ k, k < 3 → rgt (sdK t k).1 (sdK t k).2 u = false) : sepB t u = false := by
  unfold sepB
  have h0 := h 0 (by omega)
  have h1 := h 1 (by omega)
  have h2 := h 2 (by omega)
  simp only [sdK] at h0 h1 h2
  rw [h0, h1, h2]; rfl
theorem rgt_ways (a b : Pnt) (u : Tri) : (rgt a b u = false ∧ decide (trn a b u.p ≤ 0) = false) ∨ (rgt a b u = false ∧ decide (trn a b u.p ≤ 0) = true ∧ decide (trn a b u.q ≤ 0) = false) ∨
    (rgt a b u = false ∧ decide (trn a b u.p ≤ 0) = true ∧ decide (trn a b u.q ≤ 0) = true ∧ decide (trn a b u.r ≤ 0) = false) ∨ (rgt a b u = true ∧ decide (trn a b u.p ≤ 0) = true ∧ decide (trn a b u.q ≤ 0) = true ∧ decide (trn a b u.r ≤ 0) = true) := by
  unfold rgt
  cases decide (trn a b u.p ≤ 0) <;> cases decide (trn a b u.q ≤ 0) <;> cases decide (trn a b u.r ≤ 0) <;> simp
set_option maxRecDepth 100000 in
set_option maxHeartbeats 8000000 in
theorem mssep_any (t u : Tri) (w : World) (ht : t.in) (hu : u.in) : Calls Tryd.prog 55 #[.agg t.cells.toArray, .agg u.cells.toArray] w (RetW (.bool (sepB t u)) w) := by
  have X := ((Own.start w).alloc #[.int .i64 t.p.x, .int .i64 t.p.y, .int .i64 t.q.x, .int .i64 t.q.y, .int .i64 t.r.x, .int .i64 t.r.y] 103).alloc #[.int .i64 u.p.x, .int .i64 u.p.y, .int .i64 u.q.x, .int .i64 u.q.y, .int .i64 u.r.x, .int .i64 u.r.y] 103
  simp only [World.size_alloc] at X
  have HX := hide X
  clear X
  have TN := hide (fun W (a b c : Pnt) (ha : a.in) (hb : b.in) (hc : c.in) => msturn_any a b c W ha hb hc)
  unfold RetW at TN
  have HT := hide ht
  have HU := hide hu
  have YES := hide (fun k hk h => sep_yes (t := t) (u := u) (k := k) hk h)
  have NO := hide (fun h => sep_no (t := t) (u := u) h)
  generalize sepB t u = ans at *
  clear ht hu
  go_enter Tryd.func55, Tryd.ntmps55
  go_wp2
  go_loopw [8] (fun v8 wr => ∃ k : Nat, k ≤ 3 ∧ v8 = .int .i64 k ∧ Hid (Own w wr [(w.heap.size + 1, 103, #[.int .i64 u.p.x, .int .i64 u.p.y, .int .i64 u.q.x, .int .i64 u.q.y, .int .i64 u.r.x, .int .i64 u.r.y]), (w.heap.size, 103, #[.int .i64 t.p.x, .int .i64 t.p.y, .int .i64 t.q.x, .int .i64 t.q.y, .int .i64 t.r.x, .int .i64 t.r.y])]) ∧
    Hid (∀ j, j < k → rgt (sdK t j).1 (sdK t j).2 u = false)) (fun v8 _ => 3 - (intOf v8).toNat)
  case atStart => exact ⟨0, by omega, rfl, HX, hide (fun j hj => by omega)⟩
  case round =>
    obtain ⟨k, hk, rfl, HO, HN⟩ := hrel
    by_cases h3 : k = 3
    · subst h3
      have E := hide (NO.out HN.out)
      go_wp2
      go_ret
      exact ⟨ret_bool E.out.symm, HO.out.1⟩
    obtain rfl | rfl | rfl : k = 0 ∨ k = 1 ∨ k = 2 := by omega
    · clear hk h3
      have hr := HO.out.r2
      have HNK := hide (fun (h : rgt t.p t.q u = false) j (hj : j < 0 + 1) => (show rgt (sdK t j).1 (sdK t j).2 u = false by
        by_cases e : j = 0
        · subst e; exact h
        · exact HN.out j (by omega)))
      have YK := hide (fun (h : rgt t.p t.q u = true) => YES.out 0 (by omega) h)
      have IA : Pnt.in t.p := HT.out.1
      have IB : Pnt.in t.q := HT.out.2.1
      have RW := rgt_ways t.p t.q u
      have s1 : IntKind.i64.wrap 1 = 1 := by decide
      have s2 : (1 : Int).tmod 3 = 1 := by decide
      have n1 : ¬ (w.heap.size = w.heap.size + 1) := by omega
      have hz : w.heap.size + 1 < wr.heap.size := hr.1.2.2
      go_upto_region 4 with (fail)
      go_cut [6, 7] (fun v6 v7 wx => ∃ b6 b7 : Nat, v6 = .pointer (some ⟨b6, 0, none⟩) ∧ v7 = .pointer (some ⟨b7, 0, none⟩) ∧ Hid (Own w wx [(b6, 44, #[.int .i64 t.p.x, .int .i64 t.p.y]), (b7, 44, #[.int .i64 t.q.x, .int .i64 t.q.y]), (w.heap.size + 1, 103, #[.int .i64 u.p.x, .int .i64 u.p.y, .int .i64 u.q.x, .int .i64 u.q.y, .int .i64 u.r.x, .int .i64 u.r.y]), (w.heap.size, 103, #[.int .i64 t.p.x, .int .i64 t.p.y, .int .i64 t.q.x, .int .i64 t.q.y, .int .i64 t.r.x, .int .i64 t.r.y])]))
      case first =>
        go_region_held3 (fun w' => w'.cell? ⟨w.heap.size, 0, none⟩ = some (.int .i64 t.p.x) ∧ w'.cell? ⟨w.heap.size, 1, none⟩ = some (.int .i64 t.p.y) ∧ w'.cell? ⟨w.heap.size, 2, none⟩ = some (.int .i64 t.q.x) ∧ w'.cell? ⟨w.heap.size, 3, none⟩ = some (.int .i64 t.q.y)) (go_keep) (fail)
        all_goals
          go_wp2_with fail
          go_meet
          refine ⟨_, _, rfl, rfl, ?_⟩
          first | exact hide (own_two HO.out) | exact hide (own_two HO.out).swap
      case rest =>
        obtain ⟨b6, b7, rfl, rfl, HO⟩ := hcut
        clear hr hz n1 s1 s2
        have hr := HO.out.r4
        rcases RW with ⟨r1, t1⟩ | ⟨r1, t1, t2⟩ | ⟨r1, t1, t2, t3⟩ | ⟨r1, t1, t2, t3⟩
        · have HN2 := hide (HNK.out r1)
          clear r1 HNK YK HN
          go_wp2_with fail
          refine (TN.out _ t.p t.q u.p IA IB HU.out.1).mono ?_
          rintro e w1 ⟨rfl, hb⟩
          replace HO := hide (HO.out.to hb)
          clear hr hb
          have hr := HO.out.r4
          go_wp2
          go_roundw
          case rel => exact ⟨0 + 1, by omega, rfl, hide HO.out.tail.tail, HN2⟩
          case measure => simp [intOf]
        · have HN2 := hide (HNK.out r1)
          clear r1 HNK YK HN
          go_wp2_with fail
          refine (TN.out _ t.p t.q u.p IA IB HU.out.1).mono ?_
          rintro e w1 ⟨rfl, hb⟩
          replace HO := hide (HO.out.to hb)
          clear hr hb
          have hr := HO.out.r4
          go_wp2_with fail
          refine (TN.out _ t.p t.q u.q IA IB HU.out.2.1).mono ?_
          rintro e w1 ⟨rfl, hb⟩
          replace HO := hide (HO.out.to hb)
          clear hr hb
          have hr := HO.out.r4
          go_wp2
          go_roundw
          case rel => exact ⟨0 + 1, by omega, rfl, hide HO.out.tail.tail, HN2⟩
          case measure => simp [intOf]
        · have HN2 := hide (HNK.out r1)
          clear r1 HNK YK HN
          go_wp2_with fail
          refine (TN.out _ t.p t.q u.p IA IB HU.out.1).mono ?_
          rintro e w1 ⟨rfl, hb⟩
          replace HO := hide (HO.out.to hb)
          clear hr hb
          have hr := HO.out.r4
          go_wp2_with fail
          refine (TN.out _ t.p t.q u.q IA IB HU.out.2.1).mono ?_
          rintro e w1 ⟨rfl, hb⟩
          replace HO := hide (HO.out.to hb)
          clear hr hb
          have hr := HO.out.r4
          go_wp2_with fail
          refine (TN.out _ t.p t.q u.r IA IB HU.out.2.2).mono ?_
          rintro e w1 ⟨rfl, hb⟩
          replace HO := hide (HO.out.to hb)
          clear hr hb
          have hr := HO.out.r4
          go_wp2
          go_roundw
          case rel => exact ⟨0 + 1, by omega, rfl, hide HO.out.tail.tail, HN2⟩
          case measure => simp [intOf]
        · have E := hide (YK.out r1)
          clear r1 HNK YK HN
          go_wp2_with fail
          refine (TN.out _ t.p t.q u.p IA IB HU.out.1).mono ?_
          rintro e w1 ⟨rfl, hb⟩
          replace HO := hide (HO.out.to hb)
          clear hr hb
          have hr := HO.out.r4
          go_wp2_with fail
          refine (TN.out _ t.p t.q u.q IA IB HU.out.2.1).mono ?_
          rintro e w1 ⟨rfl, hb⟩
          replace HO := hide (HO.out.to hb)
          clear hr hb
          have hr := HO.out.r4
          go_wp2_with fail
          refine (TN.out _ t.p t.q u.r IA IB HU.out.2.2).mono ?_
          rintro e w1 ⟨rfl, hb⟩
          replace HO := hide (HO.out.to hb)
          clear hr hb
          have hr := HO.out.r4
          go_wp2
          go_ret
          exact ⟨ret_bool E.out.symm, HO.out.1⟩
    · clear hk h3
      have hr := HO.out.r2
      have HNK := hide (fun (h : rgt t.q t.r u = false) j (hj : j < 1 + 1) => (show rgt (sdK t j).1 (sdK t j).2 u = false by
        by_cases e : j = 1
        · subst e; exact h
        · exact HN.out j (by omega)))
      have YK := hide (fun (h : rgt t.q t.r u = true) => YES.out 1 (by omega) h)
      have IA : Pnt.in t.q := HT.out.2.1
      have IB : Pnt.in t.r := HT.out.2.2
      have RW := rgt_ways t.q t.r u
      have s1 : IntKind.i64.wrap 2 = 2 := by decide
      have s2 : (2 : Int).tmod 3 = 2 := by decide
      have n1 : ¬ (w.heap.size = w.heap.size + 1) := by omega
      have hz : w.heap.size + 1 < wr.heap.size := hr.1.2.2
      go_upto_region 4 with (fail)
      go_cut [6, 7] (fun v6 v7 wx => ∃ b6 b7 : Nat, v6 = .pointer (some ⟨b6, 0, none⟩) ∧ v7 = .pointer (some ⟨b7, 0, none⟩) ∧ Hid (Own w wx [(b6, 44, #[.int .i64 t.q.x, .int .i64 t.q.y]), (b7, 44, #[.int .i64 t.r.x, .int .i64 t.r.y]), (w.heap.size + 1, 103, #[.int .i64 u.p.x, .int .i64 u.p.y, .int .i64 u.q.x, .int .i64 u.q.y, .int .i64 u.r.x, .int .i64 u.r.y]), (w.heap.size, 103, #[.int .i64 t.p.x, .int .i64 t.p.y, .int .i64 t.q.x, .int .i64 t.q.y, .int .i64 t.r.x, .int .i64 t.r.y])]))
      case first =>
        go_region_held3 (fun w' => w'.cell? ⟨w.heap.size, 2, none⟩ = some (.int .i64 t.q.x) ∧ w'.cell? ⟨w.heap.size, 3, none⟩ = some (.int .i64 t.q.y) ∧ w'.cell? ⟨w.heap.size, 4, none⟩ = some (.int .i64 t.r.x) ∧ w'.cell? ⟨w.heap.size, 5, none⟩ = some (.int .i64 t.r.y)) (go_keep) (fail)
        all_goals
          go_wp2_with fail
          go_meet
          refine ⟨_, _, rfl, rfl, ?_⟩
          first | exact hide (own_two HO.out) | exact hide (own_two HO.out).swap
      case rest =>
        obtain ⟨b6, b7, rfl, rfl, HO⟩ := hcut
        clear hr hz n1 s1 s2
        have hr := HO.out.r4
        rcases RW with ⟨r1, t1⟩ | ⟨r1, t1, t2⟩ | ⟨r1, t1, t2, t3⟩ | ⟨r1, t1, t2, t3⟩
        · have HN2 := hide (HNK.out r1)
          clear r1 HNK YK HN
          go_wp2_with fail
          refine (TN.out _ t.q t.r u.p IA IB HU.out.1).mono ?_
          rintro e w1 ⟨rfl, hb⟩
          replace HO := hide (HO.out.to hb)
          clear hr hb
          have hr := HO.out.r4
          go_wp2
          go_roundw
          case rel => exact ⟨1 + 1, by omega, rfl, hide HO.out.tail.tail, HN2⟩
          case measure => simp [intOf]
        · have HN2 := hide (HNK.out r1)
          clear r1 HNK YK HN
          go_wp2_with fail
          refine (TN.out _ t.q t.r u.p IA IB HU.out.1).mono ?_
          rintro e w1 ⟨rfl, hb⟩
          replace HO := hide (HO.out.to hb)
          clear hr hb
          have hr := HO.out.r4
          go_wp2_with fail
          refine (TN.out _ t.q t.r u.q IA IB HU.out.2.1).mono ?_
          rintro e w1 ⟨rfl, hb⟩
          replace HO := hide (HO.out.to hb)
          clear hr hb
          have hr := HO.out.r4
          go_wp2
          go_roundw
          case rel => exact ⟨1 + 1, by omega, rfl, hide HO.out.tail.tail, HN2⟩
          case measure => simp [intOf]
        · have HN2 := hide (HNK.out r1)
          clear r1 HNK YK HN
          go_wp2_with fail
          refine (TN.out _ t.q t.r u.p IA IB HU.out.1).mono ?_
          rintro e w1 ⟨rfl, hb⟩
          replace HO := hide (HO.out.to hb)
          clear hr hb
          have hr := HO.out.r4
          go_wp2_with fail
          refine (TN.out _ t.q t.r u.q IA IB HU.out.2.1).mono ?_
          rintro e w1 ⟨rfl, hb⟩
          replace HO := hide (HO.out.to hb)
          clear hr hb
          have hr := HO.out.r4
          go_wp2_with fail
          refine (TN.out _ t.q t.r u.r IA IB HU.out.2.2).mono ?_
          rintro e w1 ⟨rfl, hb⟩
          replace HO := hide (HO.out.to hb)
          clear hr hb
          have hr := HO.out.r4
          go_wp2
          go_roundw
          case rel => exact ⟨1 + 1, by omega, rfl, hide HO.out.tail.tail, HN2⟩
          case measure => simp [intOf]
        · have E := hide (YK.out r1)
          clear r1 HNK YK HN
          go_wp2_with fail
          refine (TN.out _ t.q t.r u.p IA IB HU.out.1).mono ?_
          rintro e w1 ⟨rfl, hb⟩
          replace HO := hide (HO.out.to hb)
          clear hr hb
          have hr := HO.out.r4
          go_wp2_with fail
          refine (TN.out _ t.q t.r u.q IA IB HU.out.2.1).mono ?_
          rintro e w1 ⟨rfl, hb⟩
          replace HO := hide (HO.out.to hb)
          clear hr hb
          have hr := HO.out.r4
          go_wp2_with fail
          refine (TN.out _ t.q t.r u.r IA IB HU.out.2.2).mono ?_
          rintro e w1 ⟨rfl, hb⟩
          replace HO := hide (HO.out.to hb)
          clear hr hb
          have hr := HO.out.r4
          go_wp2
          go_ret
          exact ⟨ret_bool E.out.symm, HO.out.1⟩
    · clear hk h3
      have hr := HO.out.r2
      have HNK := hide (fun (h : rgt t.r t.p u = false) j (hj : j < 2 + 1) => (show rgt (sdK t j).1 (sdK t j).2 u = false by
        by_cases e : j = 2
        · subst e; exact h
        · exact HN.out j (by omega)))
      have YK := hide (fun (h : rgt t.r t.p u = true) => YES.out 2 (by omega) h)
      have IA : Pnt.in t.r := HT.out.2.2
      have IB : Pnt.in t.p := HT.out.1
      have RW := rgt_ways t.r t.p u
      have s1 : IntKind.i64.wrap 3 = 3 := by decide
      have s2 : (3 : Int).tmod 3 = 0 := by decide
      have n1 : ¬ (w.heap.size = w.heap.size + 1) := by omega
      have hz : w.heap.size + 1 < wr.heap.size := hr.1.2.2
      go_upto_region 4 with (fail)
      go_cut [6, 7] (fun v6 v7 wx => ∃ b6 b7 : Nat, v6 = .pointer (some ⟨b6, 0, none⟩) ∧ v7 = .pointer (some ⟨b7, 0, none⟩) ∧ Hid (Own w wx [(b6, 44, #[.int .i64 t.r.x, .int .i64 t.r.y]), (b7, 44, #[.int .i64 t.p.x, .int .i64 t.p.y]), (w.heap.size + 1, 103, #[.int .i64 u.p.x, .int .i64 u.p.y, .int .i64 u.q.x, .int .i64 u.q.y, .int .i64 u.r.x, .int .i64 u.r.y]), (w.heap.size, 103, #[.int .i64 t.p.x, .int .i64 t.p.y, .int .i64 t.q.x, .int .i64 t.q.y, .int .i64 t.r.x, .int .i64 t.r.y])]))
      case first =>
        go_region_held3 (fun w' => w'.cell? ⟨w.heap.size, 0, none⟩ = some (.int .i64 t.p.x) ∧ w'.cell? ⟨w.heap.size, 1, none⟩ = some (.int .i64 t.p.y) ∧ w'.cell? ⟨w.heap.size, 4, none⟩ = some (.int .i64 t.r.x) ∧ w'.cell? ⟨w.heap.size, 5, none⟩ = some (.int .i64 t.r.y)) (go_keep) (fail)
        all_goals
          go_wp2_with fail
          go_meet
          refine ⟨_, _, rfl, rfl, ?_⟩
          first | exact hide (own_two HO.out) | exact hide (own_two HO.out).swap
      case rest =>
        obtain ⟨b6, b7, rfl, rfl, HO⟩ := hcut
        clear hr hz n1 s1 s2
        have hr := HO.out.r4
        rcases RW with ⟨r1, t1⟩ | ⟨r1, t1, t2⟩ | ⟨r1, t1, t2, t3⟩ | ⟨r1, t1, t2, t3⟩
        · have HN2 := hide (HNK.out r1)
          clear r1 HNK YK HN
          go_wp2_with fail
          refine (TN.out _ t.r t.p u.p IA IB HU.out.1).mono ?_
          rintro e w1 ⟨rfl, hb⟩
          replace HO := hide (HO.out.to hb)
          clear hr hb
          have hr := HO.out.r4
          go_wp2
          go_roundw
          case rel => exact ⟨2 + 1, by omega, rfl, hide HO.out.tail.tail, HN2⟩
          case measure => simp [intOf]
        · have HN2 := hide (HNK.out r1)
          clear r1 HNK YK HN
          go_wp2_with fail
          refine (TN.out _ t.r t.p u.p IA IB HU.out.1).mono ?_
          rintro e w1 ⟨rfl, hb⟩
          replace HO := hide (HO.out.to hb)
          clear hr hb
          have hr := HO.out.r4
          go_wp2_with fail
          refine (TN.out _ t.r t.p u.q IA IB HU.out.2.1).mono ?_
          rintro e w1 ⟨rfl, hb⟩
          replace HO := hide (HO.out.to hb)
          clear hr hb
          have hr := HO.out.r4
          go_wp2
          go_roundw
          case rel => exact ⟨2 + 1, by omega, rfl, hide HO.out.tail.tail, HN2⟩
          case measure => simp [intOf]
        · have HN2 := hide (HNK.out r1)
          clear r1 HNK YK HN
          go_wp2_with fail
          refine (TN.out _ t.r t.p u.p IA IB HU.out.1).mono ?_
          rintro e w1 ⟨rfl, hb⟩
          replace HO := hide (HO.out.to hb)
          clear hr hb
          have hr := HO.out.r4
          go_wp2_with fail
          refine (TN.out _ t.r t.p u.q IA IB HU.out.2.1).mono ?_
          rintro e w1 ⟨rfl, hb⟩
          replace HO := hide (HO.out.to hb)
          clear hr hb
          have hr := HO.out.r4
          go_wp2_with fail
          refine (TN.out _ t.r t.p u.r IA IB HU.out.2.2).mono ?_
          rintro e w1 ⟨rfl, hb⟩
          replace HO := hide (HO.out.to hb)
          clear hr hb
          have hr := HO.out.r4
          go_wp2
          go_roundw
          case rel => exact ⟨2 + 1, by omega, rfl, hide HO.out.tail.tail, HN2⟩
          case measure => simp [intOf]
        · have E := hide (YK.out r1)
          clear r1 HNK YK HN
          go_wp2_with fail
          refine (TN.out _ t.r t.p u.p IA IB HU.out.1).mono ?_
          rintro e w1 ⟨rfl, hb⟩
          replace HO := hide (HO.out.to hb)
          clear hr hb
          have hr := HO.out.r4
          go_wp2_with fail
          refine (TN.out _ t.r t.p u.q IA IB HU.out.2.1).mono ?_
          rintro e w1 ⟨rfl, hb⟩
          replace HO := hide (HO.out.to hb)
          clear hr hb
          have hr := HO.out.r4
          go_wp2_with fail
          refine (TN.out _ t.r t.p u.r IA IB HU.out.2.2).mono ?_
          rintro e w1 ⟨rfl, hb⟩
          replace HO := hide (HO.out.to hb)
          clear hr hb
          have hr := HO.out.r4
          go_wp2
          go_ret
          exact ⟨ret_bool E.out.symm, HO.out.1⟩
end Go.Proofs.YtbmocghfpcfmhaaDoor

namespace Go.Proofs.YtbmocghfpcfmhaaDoor
open Go.RowKit

def idxP (p : Int → Bool) (l : List Int) : Int := match l.findIdx? p with | some i => (i : Int) | none => -1
theorem idxP_no {p : Int → Bool} {l : List Int} (h : ∀ i (hi : i < l.length), p l[i] = false) : idxP p l = -1 := by
  have : l.findIdx? p = none := by
    rw [List.findIdx?_eq_none_iff]
    intro x hx
    obtain ⟨i, hi, rfl⟩ := List.mem_iff_getElem.1 hx
    exact h i hi
  simp [idxP, this]
theorem idxP_yes {p : Int → Bool} {l : List Int} {k : Nat} (hk : k < l.length) (h : ∀ i (hi : i < l.length), i < k → p l[i] = false) (hy : p l[k] = true) : idxP p l = k := by
  have : l.findIdx? p = some k := by
    rw [List.findIdx?_eq_some_iff_getElem]
    exact ⟨hk, hy, fun j hj => by rw [h j (by omega) hj]; simp⟩
  simp [idxP, this]
theorem any_idx (p : Int → Bool) (l : List Int) : l.any p = decide (0 ≤ idxP p l) := by
  unfold idxP
  cases h : l.findIdx? p with
  | none =>
    rw [List.findIdx?_eq_none_iff] at h
    rw [Bool.eq_iff_iff]
    simp only [List.any_eq_true, decide_eq_true_eq]
    constructor
    · rintro ⟨x, hx, hp⟩
      rw [h x hx] at hp
      cases hp
    · intro h'
      omega
  | some i =>
    rw [List.findIdx?_eq_some_iff_getElem] at h
    obtain ⟨hi, hp, _⟩ := h
    rw [Bool.eq_iff_iff]
    simp only [List.any_eq_true, decide_eq_true_eq]
    exact ⟨fun _ => by omega, fun _ => ⟨l[i], List.getElem_mem hi, hp⟩⟩

set_option maxHeartbeats 1000000 in
theorem idxfI_any (f : Nat) (p : Int → Bool) (hf : ∀ (d : Int) (w : World), Calls Tryd.prog f #[.int .i64 d] w fun e w' => e = .returned (.bool (p d)) ∧ w = w') (hc : ∀ (d : Int) (w : World), (callFunc f #[.int .i64 d]).run Tryd.prog w = .ok (.enter f #[.int .i64 d]) w) (l : List Int) (A : Option Addr) (cap : Nat) (w : World) (hl : IntSl w A l) :
    Calls Tryd.prog 65 #[.slice A l.length cap, .func (.func f) #[] #[]] w fun e w' => e = .returned (.int .i64 (idxP p l)) ∧ w = w' := by
  have hlen : l.length ≤ 9223372036854775807 := by have := hl.1.1; omega
  have H := hide hl
  have F := hide hf
  clear hl hf
  go_enter Tryd.func65, Tryd.ntmps65
  go_wp2
  go_loop [8] (fun v8 => ∃ k : Nat, k ≤ l.length ∧ v8 = .int .i64 k ∧ Hid (∀ i (hi : i < l.length), i < k → p l[i] = false)) (fun v8 => l.length - (intOf v8).toNat)
  case atStart => exact ⟨0, Nat.zero_le _, rfl, hide (fun _ _ h => by omega)⟩
  case round =>
    obtain ⟨k, hk, rfl, hno⟩ := hrel
    by_cases hlt : k < l.length
    · obtain ⟨b, off, rfl, hbl, hat⟩ := H.out.2 (by omega)
      have c0 := hat k hlt
      clear hat
      rcases Bool.eq_false_or_eq_true (p l[k]) with hs | hs
      · go_wp2_with fail
        refine (F.out l[k] _).mono ?_
        rintro e w' ⟨rfl, rfl⟩
        go_wp2
        go_ret
        exact ⟨ret_int (idxP_yes hlt (fun i hi hik => hno.out i hi hik) hs).symm, rfl⟩
      · go_wp2_with fail
        refine (F.out l[k] _).mono ?_
        rintro e w' ⟨rfl, rfl⟩
        go_wp2
        go_round
        case rel =>
          refine ⟨k + 1, by omega, by go_num, hide fun i hi hik => ?_⟩
          by_cases e : i = k
          · subst e; exact hs
          · exact hno.out i hi (by omega)
        case measure => simp [intOf]; omega
    · go_wp2
      go_ret
      exact ⟨ret_int (idxP_no fun i hi => hno.out i hi (by omega)).symm, rfl⟩
set_option maxHeartbeats 1000000 in
theorem contI_any (f : Nat) (p : Int → Bool) (hf : ∀ (d : Int) (w : World), Calls Tryd.prog f #[.int .i64 d] w fun e w' => e = .returned (.bool (p d)) ∧ w = w') (hc : ∀ (d : Int) (w : World), (callFunc f #[.int .i64 d]).run Tryd.prog w = .ok (.enter f #[.int .i64 d]) w) (l : List Int) (A : Option Addr) (cap : Nat) (w : World) (hl : IntSl w A l) :
    Calls Tryd.prog 48 #[.slice A l.length cap, .func (.func f) #[] #[]] w fun e w' => e = .returned (.bool (l.any p)) ∧ w = w' := by
  have F := hide hf
  have H := hide (any_idx p l)
  clear hf
  have HL := hide hl
  clear hl
  go_enter Tryd.func48, Tryd.ntmps48
  go_wp2_with fail
  refine (idxfI_any f p F.out hc l A cap _ HL.out).mono ?_
  rintro e w' ⟨rfl, rfl⟩
  go_wp2
  go_ret
  exact ⟨ret_bool H.out.symm, rfl⟩
theorem below_drewN {B : Nat} {a w : World} (h : Below B a w) (n : Nat) : Below B a (w.drewN n) := ⟨h.os, h.tape, h.output, h.size, h.block⟩
end Go.Proofs.YtbmocghfpcfmhaaDoor

namespace Go.Proofs.YtbmocghfpcfmhaaDoor
open Go Go.RowKit

set_option maxHeartbeats 2000000 in
theorem chk2_any (t o : Tri) (bt : Nat) (w : World) (ht : t.in) (ho : o.in) (hB : Blk w bt 103 t.cells.toArray) :
    Calls Tryd.prog 54 #[.agg o.cells.toArray, .pointer (some ⟨bt, 0, none⟩)] w (RetW (.bool (ovlB t o)) w) := by
  have S1 := hide (fun W => mssep_any t o W ht ho)
  have S2 := hide (fun W => mssep_any o t W ho ht)
  unfold RetW at S1 S2
  have E : Hid (ovlB t o = (!sepB t o && !sepB o t)) := hide rfl
  have X := (show Own w w [(bt, 103, #[.int .i64 t.p.x, .int .i64 t.p.y, .int .i64 t.q.x, .int .i64 t.q.y, .int .i64 t.r.x, .int .i64 t.r.y])] from ⟨Below.refl _ _, fun x hx => by rw [List.mem_singleton.1 hx]; exact hB⟩).alloc #[.int .i64 o.p.x, .int .i64 o.p.y, .int .i64 o.q.x, .int .i64 o.q.y, .int .i64 o.r.x, .int .i64 o.r.y] 103
  have n0 := hB.lt
  have n1 : ¬ bt = w.heap.size := by omega
  have hr0 := hB.rules
  generalize sepB t o = b1 at *
  generalize sepB o t = b2 at *
  have hr := X.r2
  cases b1 <;> cases b2
  all_goals
    go_enter Tryd.func54, Tryd.ntmps54
    go_wp2_with fail
    refine (S1.out _).mono ?_
    rintro e w1 ⟨rfl, hb⟩
    replace X := X.to hb
    clear hr hb hr0
    have hr := X.r2
    first
      | (go_wp2_with fail
         refine (S2.out _).mono ?_
         rintro e w2 ⟨rfl, hb⟩
         replace X := X.to hb
         clear hr hb)
      | skip
    go_wp2
    go_ret
    exact ⟨ret_bool (by rw [E.out]; rfl), X.1⟩
/-- a slice of triangles that reads as a list -/
def TriSl (w : World) (A : Option Addr) (l : List Tri) : Prop :=
  l.length ≤ 9223372036854775807 ∧ (0 < l.length → ∃ b off, A = some ⟨b, off, none⟩ ∧ b < w.heap.size ∧ ∀ i (h : i < l.length), w.cell? ⟨b, off + i * 6, none⟩ = some (.int .i64 l[i].p.x) ∧ w.cell? ⟨b, off + i * 6 + 1, none⟩ = some (.int .i64 l[i].p.y) ∧
    w.cell? ⟨b, off + i * 6 + 2, none⟩ = some (.int .i64 l[i].q.x) ∧ w.cell? ⟨b, off + i * 6 + 3, none⟩ = some (.int .i64 l[i].q.y) ∧ w.cell? ⟨b, off + i * 6 + 4, none⟩ = some (.int .i64 l[i].r.x) ∧ w.cell? ⟨b, off + i * 6 + 5, none⟩ = some (.int .i64 l[i].r.y))
theorem TriSl.below {w w' : World} {A : Option Addr} {l : List Tri} (h : TriSl w A l) (hb : Below w.heap.size w w') : TriSl w' A l :=
  ⟨h.1, fun hl => by
    obtain ⟨b, off, e, hlt, hat⟩ := h.2 hl
    have k := fun (i : Nat) => hb.cell (p := ⟨b, i, none⟩) hlt
    refine ⟨b, off, e, Nat.lt_of_lt_of_le hlt hb.size, fun i hi => ?_⟩
    obtain ⟨a0, a1, a2, a3, a4, a5⟩ := hat i hi
    exact ⟨(k _).trans a0, (k _).trans a1, (k _).trans a2, (k _).trans a3, (k _).trans a4, (k _).trans a5⟩⟩
def idxT (p : Tri → Bool) (l : List Tri) : Int := match l.findIdx? p with | some i => (i : Int) | none => -1
theorem idxT_no {p : Tri → Bool} {l : List Tri} (h : ∀ i (hi : i < l.length), p l[i] = false) : idxT p l = -1 := by
  have : l.findIdx? p = none := by
    rw [List.findIdx?_eq_none_iff]
    intro x hx
    obtain ⟨i, hi, rfl⟩ := List.mem_iff_getElem.1 hx
    exact h i hi
  simp [idxT, this]
theorem idxT_yes {p : Tri → Bool} {l : List Tri} {k : Nat} (hk : k < l.length) (h : ∀ i (hi : i < l.length), i < k → p l[i] = false) (hy : p l[k] = true) : idxT p l = k := by
  have : l.findIdx? p = some k := by
    rw [List.findIdx?_eq_some_iff_getElem]
    exact ⟨hk, hy, fun j hj => by rw [h j (by omega) hj]; simp⟩
  simp [idxT, this]
theorem any_idxT (p : Tri → Bool) (l : List Tri) : l.any p = decide (0 ≤ idxT p l) := by
  unfold idxT
  cases h : l.findIdx? p with
  | none =>
    rw [List.findIdx?_eq_none_iff] at h
    rw [Bool.eq_iff_iff]
    simp only [List.any_eq_true, decide_eq_true_eq]
    constructor
    · rintro ⟨x, hx, hp⟩
      rw [h x hx] at hp
      cases hp
    · intro h'
      omega
  | some i =>
    rw [List.findIdx?_eq_some_iff_getElem] at h
    obtain ⟨hi, hp, _⟩ := h
    rw [Bool.eq_iff_iff]
    simp only [List.any_eq_true, decide_eq_true_eq]
    exact ⟨fun _ => by omega, fun _ => ⟨l[i], List.getElem_mem hi, hp⟩⟩
set_option maxRecDepth 100000 in
set_option maxHeartbeats 2000000 in
theorem idxT_any (t : Tri) (l : List Tri) (A : Option Addr) (cap bt : Nat) (w : World) (hl : TriSl w A l) (ht : t.in) (hi : ∀ o ∈ l, Tri.in o) (hB : Blk w bt 103 t.cells.toArray) :
    Calls Tryd.prog 66 #[.slice A l.length cap, .func (.func 54) #[] #[.pointer (some ⟨bt, 0, none⟩)]] w (RetW (.int .i64 (idxT (ovlB t) l)) w) := by
  have hlen : l.length ≤ 9223372036854775807 := hl.1
  have H := hide hl
  have HB := hide hB
  have CK := hide (fun W o (ho : o ∈ l) h => chk2_any t o bt W ht (hi o ho) h)
  unfold RetW at CK
  have nb := hB.lt
  clear hl hB ht hi
  go_enter Tryd.func66, Tryd.ntmps66
  go_wp2
  go_loopw [8] (fun v8 wr => ∃ k : Nat, k ≤ l.length ∧ v8 = .int .i64 k ∧ Hid (Below w.heap.size w wr) ∧ Hid (∀ i (hi : i < l.length), i < k → ovlB t l[i] = false)) (fun v8 _ => l.length - (intOf v8).toNat)
  case atStart => exact ⟨0, Nat.zero_le _, rfl, hide (Below.refl _ _), hide (fun _ _ h => by omega)⟩
  case round =>
    obtain ⟨k, hk, rfl, HW, hno⟩ := hrel
    by_cases hlt : k < l.length
    · obtain ⟨b, off, rfl, hbl, hat⟩ := (H.out.below HW.out).2 (by omega)
      obtain ⟨c0, c1, c2, c3, c4, c5⟩ := hat k hlt
      have HBk := hide (HB.out.below HW.out nb)
      have CKk := hide (fun W h => CK.out W l[k] (List.getElem_mem hlt) h)
      clear hat
      by_cases hs : ovlB t l[k] = true
      · have E := hide (idxT_yes (p := ovlB t) hlt (fun i hi hik => hno.out i hi hik) hs)
        rw [hs] at CKk
        clear hs
        generalize l[k] = o at *
        go_wp2_with fail
        refine (CKk.out _ HBk.out).mono ?_
        rintro e w' ⟨rfl, hb⟩
        go_wp2
        go_ret
        exact ⟨ret_int E.out.symm, below_via HW.out HW.out.size hb⟩
      · have hs : ovlB t l[k] = false := by simpa using hs
        have hno2 := hide (fun i (hi : i < l.length) (hik : i < k + 1) => (show ovlB t l[i] = false by
          by_cases e : i = k
          · subst e; exact hs
          · exact hno.out i hi (by omega)))
        rw [hs] at CKk
        clear hs
        generalize l[k] = o at *
        go_wp2_with fail
        refine (CKk.out _ HBk.out).mono ?_
        rintro e w' ⟨rfl, hb⟩
        have HW2 := hide (below_via HW.out HW.out.size hb)
        clear hb
        go_wp2
        go_roundw
        case rel => exact ⟨k + 1, by omega, by go_num, HW2, hno2⟩
        case measure => simp [intOf]; omega
    · go_wp2
      go_ret
      exact ⟨ret_int (idxT_no fun i hi => hno.out i hi (by omega)).symm, HW.out⟩
set_option maxHeartbeats 1000000 in
theorem contT_any (t : Tri) (l : List Tri) (A : Option Addr) (cap bt : Nat) (w : World) (hl : TriSl w A l) (ht : t.in) (hi : ∀ o ∈ l, Tri.in o) (hB : Blk w bt 103 t.cells.toArray) :
    Calls Tryd.prog 53 #[.slice A l.length cap, .func (.func 54) #[] #[.pointer (some ⟨bt, 0, none⟩)]] w (RetW (.bool (l.any (ovlB t))) w) := by
  have C := hide (idxT_any t l A cap bt w hl ht hi hB)
  have E := hide (any_idxT (ovlB t) l)
  generalize idxT (ovlB t) l = i at *
  unfold RetW at C
  clear hl ht hi hB
  go_enter Tryd.func53, Tryd.ntmps53
  go_wp2_with fail
  refine C.out.mono ?_
  rintro e w' ⟨rfl, hb⟩
  go_wp2
  go_ret
  exact ⟨ret_bool E.out.symm, hb⟩
end Go.Proofs.YtbmocghfpcfmhaaDoor

namespace Go.Proofs.YtbmocghfpcfmhaaDoor
open Go Go.RowKit

set_option maxHeartbeats 1000000 in
theorem idxfI2_any (f : Nat) (p : Int → Bool) (p1 p2 : Value) (w : World) (hf : ∀ d : Int, Calls Tryd.prog f #[.int .i64 d, p1, p2] w fun e w' => e = .returned (.bool (p d)) ∧ w = w') (hc : ∀ (d : Int) (w : World), (callFunc f #[.int .i64 d, p1, p2]).run Tryd.prog w = .ok (.enter f #[.int .i64 d, p1, p2]) w) (l : List Int) (A : Option Addr) (cap : Nat) (hl : IntSl w A l) :
    Calls Tryd.prog 65 #[.slice A l.length cap, .func (.func f) #[] #[p1, p2]] w fun e w' => e = .returned (.int .i64 (idxP p l)) ∧ w = w' := by
  have hlen : l.length ≤ 9223372036854775807 := by have := hl.1.1; omega
  have H := hide hl
  have F := hide hf
  clear hl hf
  go_enter Tryd.func65, Tryd.ntmps65
  go_wp2
  go_loop [8] (fun v8 => ∃ k : Nat, k ≤ l.length ∧ v8 = .int .i64 k ∧ Hid (∀ i (hi : i < l.length), i < k → p l[i] = false)) (fun v8 => l.length - (intOf v8).toNat)
  case atStart => exact ⟨0, Nat.zero_le _, rfl, hide (fun _ _ h => by omega)⟩
  case round =>
    obtain ⟨k, hk, rfl, hno⟩ := hrel
    by_cases hlt : k < l.length
    · obtain ⟨b, off, rfl, hbl, hat⟩ := H.out.2 (by omega)
      have c0 := hat k hlt
      clear hat
      rcases Bool.eq_false_or_eq_true (p l[k]) with hs | hs
      · go_wp2_with fail
        refine (F.out l[k]).mono ?_
        rintro e w' ⟨rfl, rfl⟩
        go_wp2
        go_ret
        exact ⟨ret_int (idxP_yes hlt (fun i hi hik => hno.out i hi hik) hs).symm, rfl⟩
      · go_wp2_with fail
        refine (F.out l[k]).mono ?_
        rintro e w' ⟨rfl, rfl⟩
        go_wp2
        go_round
        case rel =>
          refine ⟨k + 1, by omega, by go_num, hide fun i hi hik => ?_⟩
          by_cases e : i = k
          · subst e; exact hs
          · exact hno.out i hi (by omega)
        case measure => simp [intOf]; omega
    · go_wp2
      go_ret
      exact ⟨ret_int (idxP_no fun i hi => hno.out i hi (by omega)).symm, rfl⟩
set_option maxHeartbeats 1000000 in
theorem contI2_any (f : Nat) (p : Int → Bool) (p1 p2 : Value) (w : World) (hf : ∀ d : Int, Calls Tryd.prog f #[.int .i64 d, p1, p2] w fun e w' => e = .returned (.bool (p d)) ∧ w = w') (hc : ∀ (d : Int) (w : World), (callFunc f #[.int .i64 d, p1, p2]).run Tryd.prog w = .ok (.enter f #[.int .i64 d, p1, p2]) w) (l : List Int) (A : Option Addr) (cap : Nat) (hl : IntSl w A l) :
    Calls Tryd.prog 48 #[.slice A l.length cap, .func (.func f) #[] #[p1, p2]] w fun e w' => e = .returned (.bool (l.any p)) ∧ w = w' := by
  have F := hide hf
  have H := hide (any_idx p l)
  clear hf
  have HL := hide hl
  clear hl
  go_enter Tryd.func48, Tryd.ntmps48
  go_wp2_with fail
  refine (idxfI2_any f p p1 p2 _ F.out hc l A cap HL.out).mono ?_
  rintro e w' ⟨rfl, rfl⟩
  go_wp2
  go_ret
  exact ⟨ret_bool H.out.symm, rfl⟩
/-- a slice of bools that says which spots are not right -/
def FarSl (w : World) (A : Option Addr) (l : List Spt) : Prop := 0 < l.length → ∃ b off, A = some ⟨b, off, none⟩ ∧ b < w.heap.size ∧ ∀ i (h : i < l.length), w.cell? ⟨b, off + i, none⟩ = some (.bool (!okS l[i]))
theorem FarSl.below {w w' : World} {A : Option Addr} {l : List Spt} (h : FarSl w A l) (hb : Below w.heap.size w w') : FarSl w' A l := fun hl => by
  obtain ⟨b, off, e, hlt, hat⟩ := h hl
  exact ⟨b, off, e, Nat.lt_of_lt_of_le hlt hb.size, fun i hi => (hb.cell (p := ⟨b, off + i, none⟩) hlt).trans (hat i hi)⟩
set_option maxHeartbeats 2000000 in
theorem chk1_any (m : Msh) (a : MshA) (k : Int) (bm bf : Nat) (F : Option Addr) (fc : Nat) (w : World) (hlen : m.ss.length ≤ 9223372036854775807) (hM : Blk w bm 41 (m.cells a)) (hF : Blk w bf 93 #[.slice F m.ss.length fc]) (hs : FarSl w F m.ss) :
    Calls Tryd.prog 49 #[.int .i64 k, .pointer (some ⟨bm, 0, none⟩), .pointer (some ⟨bf, 0, none⟩)] w fun e w' => e = .returned (.bool (!cnB m.ss k)) ∧ w = w' := by
  have E : Hid (cnB m.ss k = (decide (0 ≤ k) && decide (k < m.ss.length) && okS (spA m.ss k))) := hide rfl
  have r1 := hM.rules
  have r2 := hF.rules
  by_cases h0 : 0 ≤ k
  case neg =>
    have d0 : decide (k < 0) = true := decide_eq_true (by omega)
    go_enter Tryd.func49, Tryd.ntmps49
    go_wp2
    go_ret
    exact ⟨ret_bool (by rw [E.out]; simp [h0]), rfl⟩
  obtain ⟨k, rfl⟩ : ∃ n : Nat, k = (n : Int) := ⟨k.toNat, by omega⟩
  have d0 : decide ((k : Int) < 0) = false := decide_eq_false (by omega)
  by_cases h1 : k < m.ss.length
  case neg =>
    go_enter Tryd.func49, Tryd.ntmps49
    go_wp2
    go_ret
    exact ⟨ret_bool (by rw [E.out]; simp; omega), rfl⟩
  obtain ⟨b, off, rfl, hbl, hat⟩ := hs (by omega)
  have c0 := hat k h1
  have es : spA m.ss (k : Int) = m.ss[k] := by simp [spA, h1]
  rw [es] at E
  have E2 : Hid (cnB m.ss (k : Int) = okS m.ss[k]) := hide (by rw [E.out]; simp [h1])
  clear E es hat
  generalize okS m.ss[k] = ok at *
  go_enter Tryd.func49, Tryd.ntmps49
  go_wp2
  go_ret
  exact ⟨ret_bool (by rw [E2.out]; simp; omega), rfl⟩
theorem cont1_any (m : Msh) (a : MshA) (l : List Int) (A : Option Addr) (cap bm bf : Nat) (F : Option Addr) (fc : Nat) (w : World) (hl : IntSl w A l) (hlen : m.ss.length ≤ 9223372036854775807) (hM : Blk w bm 41 (m.cells a)) (hF : Blk w bf 93 #[.slice F m.ss.length fc]) (hs : FarSl w F m.ss) :
    Calls Tryd.prog 48 #[.slice A l.length cap, .func (.func 49) #[] #[.pointer (some ⟨bm, 0, none⟩), .pointer (some ⟨bf, 0, none⟩)]] w fun e w' => e = .returned (.bool (l.any fun k => !cnB m.ss k)) ∧ w = w' :=
  contI2_any 49 (fun k => !cnB m.ss k) _ _ w (fun d => chk1_any m a d bm bf F fc w hlen hM hF hs) (fun d w => enters_of Tryd.func49 (by kernel_rfl) rfl _ w) l A cap hl
end Go.Proofs.YtbmocghfpcfmhaaDoor

namespace Go.Proofs.YtbmocghfpcfmhaaDoor
open Go.RowKit

/-- a row of cells, place by place -/
def mkRow (n : Nat) (f : Nat → Value) : Array Value := ((List.range n).map f).toArray
theorem mkRow_size (n : Nat) (f : Nat → Value) : (mkRow n f).size = n := by simp [mkRow]
theorem mkRow_at (n : Nat) (f : Nat → Value) {i : Nat} (h : i < n) : (mkRow n f)[i]? = some (f i) := by simp [mkRow, h]
theorem mkRow_set (n : Nat) (f : Nat → Value) (i : Nat) (v : Value) : (mkRow n f).setIfInBounds i v = mkRow n (fun j => if j = i then v else f j) := by
  apply Array.ext
  · simp [mkRow]
  · intro j h1 h2
    simp only [mkRow, Array.size_setIfInBounds, List.size_toArray, List.length_map, List.length_range] at h1
    by_cases e : j = i
    · subst e; simp [mkRow]
    · rw [Array.getElem_setIfInBounds_ne (hj := by simpa [mkRow] using h1) (h := fun h => e h.symm)]
      simp [mkRow, e]
theorem mkRow_congr {n : Nat} {f g : Nat → Value} (h : ∀ i, i < n → f i = g i) : mkRow n f = mkRow n g := by
  unfold mkRow
  congr 1
  exact List.map_congr_left (fun i hi => h i (List.mem_range.1 hi))
theorem mkRow_made (n : Nat) (z : Value) : madeCells #[z] n = mkRow n (fun _ => z) := by
  apply Array.ext'
  rw [toList_madeCells_one]
  simp [mkRow, List.map_const']
/-- a block of the call's own that holds integers, read as a slice -/
theorem IntSl.of_blk {w : World} {g n : Nat} {t : TypeId} {f : Nat → Int} (h : Blk w g t (mkRow n (fun i => .int .i64 (f i)))) (hn : n ≤ 9223372036854775807) (hr : ∀ i, i < n → -9223372036854775808 ≤ f i ∧ f i ≤ 9223372036854775807) : IntSl w (some ⟨g, 0, none⟩) ((List.range n).map f) := by
  refine ⟨⟨by simpa using hn, fun i hi => ?_⟩, fun _ => ⟨g, 0, rfl, h.lt, fun i hi => ?_⟩⟩
  · simp only [List.length_map, List.length_range] at hi
    simpa using hr i hi
  · simp only [List.length_map, List.length_range] at hi
    rw [Nat.zero_add, h.cell, mkRow_at n _ hi]
    simp
end Go.Proofs.YtbmocghfpcfmhaaDoor

namespace Go.Proofs.YtbmocghfpcfmhaaDoor
open Go Go.RowKit

def upF {α : Type} (f : Nat → α) (k : Nat) (v : α) : Nat → α := fun j => if j = k then v else f j
def cF (f : Nat → Value) : Array Value := #[f 0, f 1, f 2, f 3, f 4, f 5, f 6]
theorem cF_set (f : Nat → Value) {k : Nat} (hk : k < 7) (v : Value) : (cF f).setIfInBounds k v = cF (upF f k v) := by
  obtain rfl | rfl | rfl | rfl | rfl | rfl | rfl : k = 0 ∨ k = 1 ∨ k = 2 ∨ k = 3 ∨ k = 4 ∨ k = 5 ∨ k = 6 := by omega
  all_goals rfl
abbrev natV (l : List Nat) : List Value := l.map fun i : Nat => Value.int .i64 (i : Int)
/-- the rows of findings: each in a block of its own -/
structure Six (W : World) (B : Nat) (f : Nat → Value) (L : Nat → List Nat) : Prop where
  row : ∀ k, k < 7 → W.ownsRow B 3 1 (f k) (L k).length (natV (L k))
  ne : ∀ j k, j < 7 → k < 7 → j ≠ k → (f j).ownBlock = none ∨ (f j).ownBlock ≠ (f k).ownBlock
section
variable {W W' : World} {B : Nat} {f : Nat → Value} {L : Nat → List Nat}
theorem Six.kept {row : Option Nat} (h : Six W B f L) (hg : W.grownBy W' row) (hn : ∀ k, k < 7 → (f k).ownBlock = none ∨ (f k).ownBlock ≠ row) : Six W' B f L :=
  ⟨fun k hk => (h.row k hk).kept hg (hn k hk), h.ne⟩
theorem Six.to (h : Six W B f L) (hb : Below W.heap.size W W') : Six W' B f L := h.kept (grown_of_below hb none) (fun k _ => by cases (f k).ownBlock <;> simp)
theorem Six.set {g : Nat} {t : TypeId} {cs : Array Value} (h : Six W B f L) (hB : Blk W g t cs) (hne : 3 ≠ t) (i : Nat) (u : Value) : Six (W.setCell ⟨g, i, none⟩ u) B f L :=
  ⟨fun k hk => row_set (h.row k hk) hB hne i u, h.ne⟩
theorem Six.app {k x g c : Nat} (h : Six W B f L) (hk : k < 7) (hown : W'.ownsRow B 3 1 (.slice (some ⟨g, 0, none⟩) ((L k).length + 1) c) ((L k).length + 1) (natV (L k) ++ [.int .i64 (x : Int)]))
    (hg : W.grownBy W' (f k).ownBlock) (hv : (f k).ownBlock = some g ∨ g = W.heap.size) : Six W' B (upF f k (.slice (some ⟨g, 0, none⟩) ((L k).length + 1) c)) (upF L k (L k ++ [x])) := by
  have lt : ∀ j, j < 7 → ∀ b, (f j).ownBlock = some b → b < W.heap.size := fun j hj b e => ((h.row j hj).lt b e).2
  have nk : ∀ j, j < 7 → j ≠ k → (f j).ownBlock = none ∨ (f j).ownBlock ≠ some g := fun j hj hjk => by
    rcases hv with hv | hv
    · rw [← hv]; exact h.ne j k hj hk hjk
    · cases e : (f j).ownBlock with
      | none => exact .inl rfl
      | some b =>
        have := lt j hj b e
        exact .inr (by intro e'; injection e' with e'; omega)
  refine ⟨fun j hj => ?_, fun i j hi hj hij => ?_⟩
  · unfold upF
    by_cases e : j = k
    · subst e
      simp only [if_true, List.length_append, List.length_singleton]
      simpa [natV] using hown
    · simp only [if_neg e]
      exact (h.row j hj).kept hg (h.ne j k hj hk e)
  · unfold upF
    by_cases e1 : i = k
    · subst e1
      simp only [if_true, if_neg (Ne.symm hij)]
      rcases nk j hj (Ne.symm hij) with e | e
      · exact .inr (by rw [e]; simp [Value.ownBlock])
      · exact .inr (fun e' => e e'.symm)
    · by_cases e2 : j = k
      · subst e2
        simp only [if_true, if_neg e1]
        exact nk i hi e1
      · simp only [if_neg e1, if_neg e2]
        exact h.ne i j hi hj hij
theorem Six.nil (W : World) (B : Nat) : Six W B (fun _ => .slice none 0 0) (fun _ => []) := ⟨fun _ _ => World.ownsRow_nil _ _ _ _, fun _ _ _ _ _ => .inl rfl⟩
theorem Six.notMap (h : Six W B f L) {b : Nat} {es : Array MapEntry} {c : Nat} (hb : W.heap[b]? = some (.map es c)) : ∀ k, k < 7 → (f k).ownBlock = none ∨ (f k).ownBlock ≠ some b := fun k hk => by
  rcases (h.row k hk).2 with ⟨e, _⟩ | ⟨g, cap, cur, e, _, hg, _⟩
  · exact .inl (by rw [e]; rfl)
  · refine .inr fun e2 => ?_
    rw [e] at e2
    obtain rfl : g = b := by simpa [Value.ownBlock] using e2
    rw [hg] at hb; cases hb
end
theorem MapB.blk {W : World} {k b n : Nat} {D : DataW Unit} (h : MapB W k b n D) : ∃ es c, W.heap[b]? = some (.map es c) := by
  obtain ⟨es, c, hb, _⟩ := h
  exact ⟨es, c, hb⟩
theorem MapB.to {W W' : World} {k b n : Nat} {D : DataW Unit} (h : MapB W k b n D) (hb : Below W.heap.size W W') : MapB W' k b n D := World.ownsMap.kept h (grown_of_below hb none) (by simp)
/-- a row's growth keeps a map -/
theorem MapB.row {W W' : World} {k b n : Nat} {D : DataW Unit} (h : MapB W k b n D) {B e sz m : Nat} {v : Value} {xs : List Value} (hr : W.ownsRow B e sz v m xs) (hg : W.grownBy W' v.ownBlock) : MapB W' k b n D := by
  obtain ⟨es, c, hb⟩ := h.blk
  refine World.ownsMap.kept h hg (fun e => ?_)
  rcases hr.2 with ⟨rfl, _⟩ | ⟨g, cap, cur, rfl, _, hg', _⟩
  · cases e
  · obtain rfl : b = g := by simpa [Value.ownBlock] using e
    rw [hg'] at hb; cases hb
/-- a map's growth keeps blocks, rows, and other maps -/
theorem Own.gmap {w W W' : World} {L : List (Nat × TypeId × Array Value)} {k b n : Nat} {D : DataW Unit} (h : Own w W L) (hm : MapB W k b n D) (hb : w.heap.size ≤ b) (hg : W.grownBy W' (some b)) : Own w W' L := by
  obtain ⟨es, c, he⟩ := hm.blk
  refine ⟨h.1.grown hg h.1.size (fun j hj => by injection hj with hj; omega), fun x hx => (h.2 x hx).grown hg (fun e => ?_)⟩
  injection e with e
  have := h.2 x hx
  unfold Blk at this
  rw [e, he] at this
  cases this
theorem row_gmap {W W' : World} {k b n : Nat} {D : DataW Unit} (hm : MapB W k b n D) (hg : W.grownBy W' (some b)) {B e sz m : Nat} {v : Value} {xs : List Value} (hr : W.ownsRow B e sz v m xs) : W'.ownsRow B e sz v m xs := by
  obtain ⟨es, c, he⟩ := hm.blk
  refine hr.kept hg ?_
  rcases hr.2 with ⟨rfl, _⟩ | ⟨g, cap, cur, rfl, _, hg', _⟩
  · exact .inl rfl
  · refine .inr fun e2 => ?_
    obtain rfl : g = b := by simpa [Value.ownBlock] using e2
    rw [hg'] at he; cases he
theorem Six.gmap {W W' : World} {B : Nat} {f : Nat → Value} {L : Nat → List Nat} {k b n : Nat} {D : DataW Unit} (h : Six W B f L) (hm : MapB W k b n D) (hg : W.grownBy W' (some b)) : Six W' B f L :=
  ⟨fun j hj => row_gmap hm hg (h.row j hj), h.ne⟩
theorem MapB.gmap {W W' : World} {k b n b2 : Nat} {D : DataW Unit} (h : MapB W k b n D) (hne : b ≠ b2) (hg : W.grownBy W' (some b2)) : MapB W' k b n D := World.ownsMap.kept h hg (by simpa using hne)
/-- the bools of the spots so far -/
def farC (l : List Spt) (k i : Nat) : Value := .bool (if i < k then !okS (spA l i) else false)
def farR (l : List Spt) (k : Nat) : Array Value := mkRow l.length (farC l k)
end Go.Proofs.YtbmocghfpcfmhaaDoor
