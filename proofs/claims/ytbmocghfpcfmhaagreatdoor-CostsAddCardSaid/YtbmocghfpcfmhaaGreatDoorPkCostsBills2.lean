/- Parts of one proof, joined: The reference's IsName: it reports whether a string is a name, for every string; it leaves the world as it is. The reference's Valid and Bill of bills (sewershedref48): what each returns; nothing that was there is turned. The reference's Bill (sewershedref48): the cost of a bill, or the error; nothing that was there is turned. The reference's Merge, Opposite and Compare of bills (sewershedref48): what each returns; nothing that was there is turned. -/
import Derived.Test.YtbmocghfpcfmhaaGreatDoorPkCostsTrenches23
import Derived.Test.YtbmocghfpcfmhaaGreatDoorPkCostsBills1
import Derived.Test.YtbmocghfpcfmhaaGreatDoorPkCostsTrenches21
namespace Go.Proofs.YtbmocghfpcfmhaaGreatDoor
open Go.RowKit

set_option maxHeartbeats 400000 in
theorem rletter_any (c : Int) (w : World) : Calls Tryz.prog 91 #[.int .u8 c] w fun e w' => e = .returned (.bool (letB c)) ∧ w = w' := by
  by_cases h1 : 97 ≤ c <;> by_cases h2 : c ≤ 122 <;> by_cases h3 : 65 ≤ c <;> by_cases h4 : c ≤ 90
  all_goals
    go_enter Tryz.func91, Tryz.ntmps91
    go_wp2
    go_ret
    refine ⟨ret_bool ?_, rfl⟩
    simp [letB, h1, h2, h3, h4]
set_option maxHeartbeats 400000 in
theorem rdigit_any (c : Int) (w : World) : Calls Tryz.prog 132 #[.int .u8 c] w fun e w' => e = .returned (.bool (digB c)) ∧ w = w' := by
  by_cases h1 : 48 ≤ c <;> by_cases h2 : c ≤ 57
  all_goals
    go_enter Tryz.func132, Tryz.ntmps132
    go_wp2
    go_ret
    refine ⟨ret_bool ?_, rfl⟩
    simp [digB, h1, h2]

set_option maxHeartbeats 1000000 in
theorem rword_any (s : ByteArray) (w : World) (hs : s.size ≤ maxLen) :
    Calls Tryz.prog 92 #[.string s, .int .i64 0] w fun e w' => e = .returned (.int .i64 (wl s.data.toList)) ∧ w = w' := by
  unfold maxLen at hs
  go_enter Tryz.func92, Tryz.ntmps92
  go_wp2
  go_loop [1] (fun i => ∃ k : Nat, k ≤ s.size ∧ i = .int .i64 k ∧ Hid (wl s.data.toList = k + wl (s.data.toList.drop k))) (fun i => s.size - (intOf i).toNat)
  case atStart => exact ⟨0, Nat.zero_le _, rfl, hide (by simp)⟩
  case round =>
    obtain ⟨k, hk, rfl, hw⟩ := hrel
    by_cases hlt : k < s.size
    · have hat := hide (wl_at s k hlt hw.out)
      have hbd := byte_bd s[k]
      by_cases h1 : letB (s[k].toNat : Int) = true
      · have h1' := hide (wd_let h1)
        go_wp2_with (first | (go_at_call 91; refine (rletter_any _ _).mono ?_; rintro e w' ⟨rfl, rfl⟩))
        go_round
        case rel => exact ⟨k + 1, by omega, by go_num, hide (by have := hat.out; rw [if_pos h1'.out] at this; omega)⟩
        case measure => simp [intOf]; omega
      · have h1 : letB (s[k].toNat : Int) = false := by simpa using h1
        by_cases h2 : digB (s[k].toNat : Int) = true
        · have h1' := hide (wd_dig h2)
          go_wp2_with (first | (go_at_call 91; refine (rletter_any _ _).mono ?_; rintro e w' ⟨rfl, rfl⟩) | (go_at_call 132; refine (rdigit_any _ _).mono ?_; rintro e w' ⟨rfl, rfl⟩))
          go_round
          case rel => exact ⟨k + 1, by omega, by go_num, hide (by have := hat.out; rw [if_pos h1'.out] at this; omega)⟩
          case measure => simp [intOf]; omega
        · have h2 : digB (s[k].toNat : Int) = false := by simpa using h2
          have h3' := hide (wd_und h1 h2)
          by_cases h3 : ((s[k].toNat : Int) == 95) = true
          · have h3'' := hide h3
            go_wp2_with (first | (go_at_call 91; refine (rletter_any _ _).mono ?_; rintro e w' ⟨rfl, rfl⟩) | (go_at_call 132; refine (rdigit_any _ _).mono ?_; rintro e w' ⟨rfl, rfl⟩))
            go_round
            case rel => exact ⟨k + 1, by omega, by go_num, hide (by have := hat.out; rw [if_pos (h3'.out.trans h3''.out)] at this; omega)⟩
            case measure => simp [intOf]; omega
          · have h3 : ((s[k].toNat : Int) == 95) = false := by simpa using h3
            have h3'' := hide h3
            go_wp2_with (first | (go_at_call 91; refine (rletter_any _ _).mono ?_; rintro e w' ⟨rfl, rfl⟩) | (go_at_call 132; refine (rdigit_any _ _).mono ?_; rintro e w' ⟨rfl, rfl⟩))
            go_ret
            refine ⟨ret_int ?_, rfl⟩
            have := hat.out
            rw [if_neg (by rw [h3'.out, h3''.out]; simp)] at this
            omega
    · have he : k = s.size := by omega
      have hq := hide (wl_end s (he ▸ hw.out))
      clear he
      go_wp2
      go_ret
      refine ⟨ret_int ?_, rfl⟩
      have := hq.out
      omega

set_option maxHeartbeats 1000000 in
theorem risname_any (s : ByteArray) (w : World) (hs : s.size ≤ maxLen) :
    Calls Tryz.prog 51 #[.string s] w fun e w' => e = .returned (.bool (nameB s.data.toList)) ∧ w = w' := by
  have hs' := hs
  unfold maxLen at hs
  by_cases h0 : s.size = 0
  · have hn := hide (nameB_nil s h0)
    have hd : decide (s.size = 0) = true := by simpa using h0
    have hd : ((s.size : Int) == 0) = true := by simpa using h0
    go_enter Tryz.func51, Tryz.ntmps51
    go_wp2
    go_ret
    exact ⟨ret_bool hn.out.symm, rfl⟩
  · have hn := hide (nameB_at s (by omega))
    have hp : 0 < s.size := by omega
    have hd : ((s.size : Int) == 0) = false := by simpa using h0
    by_cases h1 : s.size ≤ 20 <;> by_cases h2 : letB (s[0].toNat : Int) = true
    all_goals
      go_enter Tryz.func51, Tryz.ntmps51
      go_wp2_with (first | (go_at_call 91; refine (rletter_any _ _).mono ?_; rintro e w' ⟨rfl, rfl⟩) | (go_at_call 92; refine (rword_any _ _ hs').mono ?_; rintro e w' ⟨rfl, rfl⟩))
      go_ret
      refine ⟨ret_bool ?_, rfl⟩
      rw [hn.out]
      simp [h1, h2]
    rw [Bool.eq_iff_iff]; simp; omega
end Go.Proofs.YtbmocghfpcfmhaaGreatDoor

namespace Go.Proofs.YtbmocghfpcfmhaaGreatDoor
open Go Go.RowKit

theorem vI_long {l : List Itm} (h : 1000 < l.length) : vI l = false := by
  unfold vI; rw [decide_eq_false (by omega)]; rfl
theorem vI_bad {l : List Itm} {k : Nat} (hk : k < l.length) (h : itB l[k] = false) : vI l = false := by
  cases e : vI l with
  | false => rfl
  | true => rw [(vI_iff.1 e).2 _ (List.getElem_mem hk)] at h; cases h
theorem vI_all {l : List Itm} (hn : ¬ 1000 < l.length) (h : ∀ i (hi : i < l.length), itB l[i] = true) : vI l = true := by
  refine vI_iff.2 ⟨by omega, fun x hx => ?_⟩
  obtain ⟨i, hi, rfl⟩ := List.mem_iff_getElem.1 hx
  exact h i hi
set_option maxRecDepth 100000 in
set_option maxHeartbeats 4000000 in
theorem rvalid48_any (l : List Itm) (A : Option Addr) (cap : Nat) (w : World) (hl : ItmSl w A l) : Calls Tryz.prog 20 #[.slice A l.length cap] w (RetW (.bool (vI l)) w) := by
  have hlen : l.length ≤ 9223372036854775807 := by have := hl.1.1; unfold maxLen at this; omega
  have HL := hide hl
  have RN := hide (fun (s : ByteArray) W h => risname_any s W h)
  have VL := hide (fun h => vI_long (l := l) h)
  have VB := hide (fun k hk h => vI_bad (l := l) (k := k) hk h)
  have VA := hide (fun hn h => vI_all (l := l) hn h)
  generalize vI l = v at *
  clear hl
  by_cases h0 : 1000 < l.length
  · have g0 : decide (1000 < (l.length : Int)) = true := decide_eq_true (by omega)
    have E := hide (VL.out h0)
    go_enter Tryz.func20, Tryz.ntmps20
    go_wp2
    go_ret
    exact ⟨ret_bool E.out.symm, Below.refl _ _⟩
  have g0 : decide (1000 < (l.length : Int)) = false := decide_eq_false (by omega)
  go_enter Tryz.func20, Tryz.ntmps20
  go_wp2
  go_loopw [3] (fun v3 wr => ∃ k : Nat, k ≤ l.length ∧ v3 = .int .i64 (k : Int) ∧ Hid (Below w.heap.size w wr) ∧ Hid (∀ i (hi : i < l.length), i < k → itB l[i] = true)) (fun v _ => l.length - (intOf v).toNat)
  case atStart => exact ⟨0, by omega, rfl, hide (Below.refl _ _), hide (fun _ _ h => by omega)⟩
  case round =>
    obtain ⟨k, hk, rfl, HB, HN⟩ := hrel
    by_cases hlt : k < l.length
    · have g1 : decide (k < l.length) = true := decide_eq_true hlt
      have g2 : (0 : Int) ≤ (k : Int) := by omega
      have g3 : (k : Int) < (l.length : Int) := by omega
      obtain ⟨b, off, rfl, hbl, hat⟩ := HL.out.2 (by omega)
      obtain ⟨c0, c1, c2⟩ := hat k hlt
      replace c0 := (HB.out.cell (p := ⟨b, off + k * 3, none⟩) hbl).trans c0
      replace c1 := (HB.out.cell (p := ⟨b, off + k * 3 + 1, none⟩) hbl).trans c1
      replace c2 := (HB.out.cell (p := ⟨b, off + k * 3 + 2, none⟩) hbl).trans c2
      have RNk := hide (fun W => RN.out l[k].nm W (HL.out.1.2 k hlt))
      have BAD := hide (fun (h : itB l[k] = false) => VB.out k hlt h)
      have OK := hide (fun (h : itB l[k] = true) i (hi : i < l.length) (hik : i < k + 1) => (show itB l[i] = true by
        by_cases e : i = k
        · subst e; exact h
        · exact HN.out i hi (by omega)))
      have EI : Hid (itB l[k] = (nameB l[k].nm.data.toList && (decide (-1073741824 ≤ l[k].am) && decide (l[k].am ≤ 1073741824)) && (decide (0 ≤ l[k].pr) && decide (l[k].pr ≤ 1073741824)))) := hide rfl
      clear hat VL VB VA
      generalize l[k] = x at *
      generalize itB x = ok at *
      generalize nameB x.nm.data.toList = b0 at *
      have ways : (b0 = false ∧ ok = false) ∨ (b0 = true ∧ decide (x.am < -1073741824) = true ∧ ok = false) ∨ (b0 = true ∧ decide (x.am < -1073741824) = false ∧ decide (1073741824 < x.am) = true ∧ ok = false) ∨
          (b0 = true ∧ decide (x.am < -1073741824) = false ∧ decide (1073741824 < x.am) = false ∧ decide (x.pr < 0) = true ∧ ok = false) ∨
          (b0 = true ∧ decide (x.am < -1073741824) = false ∧ decide (1073741824 < x.am) = false ∧ decide (x.pr < 0) = false ∧ decide (1073741824 < x.pr) = true ∧ ok = false) ∨
          (b0 = true ∧ decide (x.am < -1073741824) = false ∧ decide (1073741824 < x.am) = false ∧ decide (x.pr < 0) = false ∧ decide (1073741824 < x.pr) = false ∧ ok = true) := by
        rw [EI.out]
        cases b0
        · exact .inl ⟨rfl, rfl⟩
        · simp only [Bool.true_and, decide_eq_true_eq, decide_eq_false_iff_not, Bool.and_eq_true, Bool.and_eq_false_iff, true_and]
          simp
          omega
      clear EI
      rcases ways with ⟨rfl, rfl⟩ | ⟨rfl, y1, rfl⟩ | ⟨rfl, y1, y2, rfl⟩ | ⟨rfl, y1, y2, y3, rfl⟩ | ⟨rfl, y1, y2, y3, y4, rfl⟩ | ⟨rfl, y1, y2, y3, y4, rfl⟩
      all_goals
        first
          | (have E := hide (BAD.out rfl)
             clear BAD OK
             go_wp2_with fail
             refine (RNk.out _).mono ?_
             rintro e w' ⟨rfl, rfl⟩
             go_wp2
             go_ret
             exact ⟨ret_bool E.out.symm, HB.out⟩)
          | (have E := hide (OK.out rfl)
             clear BAD OK
             go_wp2_with fail
             refine (RNk.out _).mono ?_
             rintro e w' ⟨rfl, rfl⟩
             go_wp2
             go_roundw
             case rel => exact ⟨k + 1, by omega, by go_num, HB, E⟩
             case measure => simp [intOf]; omega)
    · have E := hide (VA.out h0 (fun i hi => HN.out i hi (by omega)))
      have g1 : decide (k < l.length) = false := decide_eq_false hlt
      go_wp2
      go_ret
      exact ⟨ret_bool E.out.symm, HB.out⟩
end Go.Proofs.YtbmocghfpcfmhaaGreatDoor

namespace Go.Proofs.YtbmocghfpcfmhaaGreatDoor
open Go Go.RowKit

def hiS : List Itm → Int
  | [] => 0
  | x :: l => x.am * x.pr / 1073741824 + hiS l
def loS : List Itm → Int
  | [] => 0
  | x :: l => x.am * x.pr % 1073741824 + loS l
theorem hiS_append : ∀ a b : List Itm, hiS (a ++ b) = hiS a + hiS b
  | [], b => by simp [hiS]
  | x :: a, b => by simp only [List.cons_append, hiS, hiS_append a b]; omega
theorem loS_append : ∀ a b : List Itm, loS (a ++ b) = loS a + loS b
  | [], b => by simp [loS]
  | x :: a, b => by simp only [List.cons_append, loS, loS_append a b]; omega
theorem hl_csS : ∀ l : List Itm, hiS l * 1073741824 + loS l = csS l
  | [] => rfl
  | x :: l => by
    have i := hl_csS l
    simp only [hiS, loS, csS]
    generalize x.am * x.pr = p at *
    omega
theorem hl_bd : ∀ l : List Itm, (∀ x ∈ l, itB x = true) → (-(1073741824 * (l.length : Int)) ≤ hiS l ∧ hiS l ≤ 1073741824 * (l.length : Int)) ∧ 0 ≤ loS l ∧ loS l ≤ 1073741823 * (l.length : Int)
  | [], _ => by simp [hiS, loS]
  | x :: l, h => by
    have i := hl_bd l fun y hy => h y (List.mem_cons_of_mem _ hy)
    have p := prod_bd (h x (List.mem_cons_self ..))
    simp only [hiS, loS, List.length_cons]
    generalize x.am * x.pr = q at *
    omega
theorem hl_tb {l : List Itm} (hv : vI l = true) (k : Nat) : (-1073741824000 ≤ hiS (l.take k) ∧ hiS (l.take k) ≤ 1073741824000) ∧ 0 ≤ loS (l.take k) ∧ loS (l.take k) ≤ 1073741823000 := by
  obtain ⟨h1, h2⟩ := vI_iff.1 hv
  have b := hl_bd (l.take k) fun x hx => h2 x (List.mem_of_mem_take hx)
  have : (l.take k).length ≤ 1000 := by rw [List.length_take]; omega
  omega
theorem hiS_take {l : List Itm} {k : Nat} (h : k < l.length) : hiS (l.take (k + 1)) = hiS (l.take k) + l[k].am * l[k].pr / 1073741824 := by
  rw [List.take_succ_eq_append_getElem h, hiS_append]; simp [hiS]
theorem loS_take {l : List Itm} {k : Nat} (h : k < l.length) : loS (l.take (k + 1)) = loS (l.take k) + l[k].am * l[k].pr % 1073741824 := by
  rw [List.take_succ_eq_append_getElem h, loS_append]; simp [loS]
set_option maxHeartbeats 1000000 in
theorem rbill_no (l : List Itm) (A : Option Addr) (cap : Nat) (w : World) (hl : ItmSl w A l) (h : vI l = false) : Calls Tryz.prog 14 #[.slice A l.length cap] w (RetW (.tuple #[.int .i64 0, .int .i64 1]) w) := by
  have V := hide (fun W h => rvalid48_any l A cap W h)
  rw [h] at V
  unfold RetW at V
  have HL := hide hl
  clear hl h
  go_enter Tryz.func14, Tryz.ntmps14
  go_wp2_with fail
  refine (V.out _ HL.out).mono ?_
  rintro e w1 ⟨rfl, hb⟩
  go_wp2
  go_ret2
  exact ⟨rfl, hb⟩
set_option maxRecDepth 100000 in
set_option maxHeartbeats 4000000 in
theorem rbill_ok (l : List Itm) (A : Option Addr) (cap : Nat) (w : World) (hl : ItmSl w A l) (hv : vI l = true) : Calls Tryz.prog 14 #[.slice A l.length cap] w (RetW (.tuple #[.int .i64 (biV l), .int .i64 (biE l)]) w) := by
  have V := hide (fun W h => rvalid48_any l A cap W h)
  rw [hv] at V
  have hlen : l.length ≤ 9223372036854775807 := by have := hl.1.1; unfold maxLen at this; omega
  have IT := hide (fun k (h : k < l.length) => (vI_iff.1 hv).2 l[k] (List.getElem_mem h))
  have TB := hide (fun k => hl_tb hv k)
  have ET : Hid (hiS (l.take l.length) = hiS l ∧ loS (l.take l.length) = loS l) := hide (by rw [List.take_length]; exact ⟨rfl, rfl⟩)
  have HC := hide (hl_csS l)
  have EE : Hid (biE l = if -1152921504606846976 ≤ csS l ∧ csS l ≤ 1152921504606846976 then 0 else 5) := hide (by unfold biE; rw [if_pos hv])
  have EV : Hid (biV l = if biE l = 0 then csS l else 0) := hide rfl
  unfold RetW at V
  have HL := hide hl
  clear hl hv
  go_enter Tryz.func14, Tryz.ntmps14
  go_wp2_with fail
  refine (V.out _ HL.out).mono ?_
  rintro e w1 ⟨rfl, hb⟩
  have HB0 := hide hb
  clear hb
  go_wp2
  go_loopw [4, 5, 6] (fun v4 v5 v6 wr => ∃ k : Nat, k ≤ l.length ∧ v6 = .int .i64 (k : Int) ∧ v4 = .int .i64 (hiS (l.take k)) ∧ v5 = .int .i64 (loS (l.take k)) ∧ Hid (Below w.heap.size w wr)) (fun _ _ v _ => l.length - (intOf v).toNat)
  case atStart => exact ⟨0, by omega, rfl, rfl, rfl, HB0⟩
  case round =>
    clear HB0
    obtain ⟨k, hk, rfl, rfl, rfl, HB⟩ := hrel
    by_cases hlt : k < l.length
    · have g1 : decide (k < l.length) = true := decide_eq_true hlt
      have g2 : (0 : Int) ≤ (k : Int) := by omega
      have g3 : (k : Int) < (l.length : Int) := by omega
      obtain ⟨b, off, rfl, hbl, hat⟩ := HL.out.2 (by omega)
      obtain ⟨c0, c1, c2⟩ := hat k hlt
      replace c1 := (HB.out.cell (p := ⟨b, off + k * 3 + 1, none⟩) hbl).trans c1
      replace c2 := (HB.out.cell (p := ⟨b, off + k * 3 + 2, none⟩) hbl).trans c2
      have hbl2 : b < wr.heap.size := Nat.lt_of_lt_of_le hbl HB.out.size
      have EH := hide (hiS_take hlt)
      have EL := hide (loS_take hlt)
      obtain ⟨⟨h1, h2⟩, h3, h4⟩ := TB.out k
      have ib := prod_bd (IT.out k hlt)
      clear hat c0
      generalize l[k] = x at *
      obtain ⟨n, hn⟩ : ∃ n, n = x.am * x.pr := ⟨_, rfl⟩
      rw [← hn] at EH EL ib
      have w1 : wrap64 (x.am * x.pr) = n := by rw [← hn]; exact IntWalk.wrap64_in _ (by omega)
      have FL := hide (fun W => rfloor4_any n 1073741824 W (by omega) (by omega))
      obtain ⟨h, hh⟩ : ∃ h, h = n / 1073741824 := ⟨_, rfl⟩
      obtain ⟨r, hr⟩ : ∃ r, r = n % 1073741824 := ⟨_, rfl⟩
      rw [← hh] at EH FL
      rw [← hr] at EL
      have e1 : (n ≤ h * 1073741824 + r ∧ h * 1073741824 + r ≤ n) ∧ 0 ≤ r ∧ r < 1073741824 ∧ -1073741824 ≤ h ∧ h ≤ 1073741824 := by omega
      obtain ⟨⟨e1, e6⟩, e2, e3, e4, e5⟩ := e1
      generalize hiS (l.take k) = H at *
      generalize loS (l.take k) = L at *
      clear hn hh hr
      have NE : Nonempty (OwnW wr []) := ⟨⟨_, Own.start wr⟩⟩
      have D1 := fun z : OwnW wr [] => (z.own.1.cell (p := ⟨b, off + k * 3 + 1, none⟩) hbl2).trans c1
      have D2 := fun z : OwnW wr [] => (z.own.1.cell (p := ⟨b, off + k * 3 + 2, none⟩) hbl2).trans c2
      go_upto_region 7 with (fail)
      refine wp_region_own (w := wr) (L := []) (by kernel_rfl) (by kernel_rfl) (Own.start wr) ?_
      repeat (go_big_quiet_step (fail))
      refine wpQuiet_nil ?_
      rintro W2 ⟨⟨W2, HO⟩, rfl⟩
      have HB2 := hide (below_via HB.out HB.out.size HO.1)
      rw [w1]
      clear NE D1 D2 HO c1 c2 w1
      go_wp2_with fail
      refine (FL.out _).mono ?_
      rintro e w' ⟨rfl, rfl⟩
      go_wp2
      go_roundw
      case rel => exact ⟨k + 1, by omega, by go_num, by rw [EH.out], by rw [EL.out]; congr 1; omega, HB2⟩
      case measure => simp [intOf]; omega
    · obtain rfl : k = l.length := by omega
      have g1 : decide (l.length < l.length) = false := decide_eq_false (by omega)
      obtain ⟨⟨h1, h2⟩, h3, h4⟩ := TB.out l.length
      rw [ET.out.1] at h1 h2 ⊢
      rw [ET.out.2] at h3 h4 ⊢
      clear ET TB IT V
      generalize csS l = S at *
      generalize hiS l = H0 at *
      generalize loS l = L0 at *
      obtain ⟨q, hq⟩ : ∃ q, q = L0 / 1073741824 := ⟨_, rfl⟩
      obtain ⟨r, hr⟩ : ∃ r, r = L0 % 1073741824 := ⟨_, rfl⟩
      have t1 : L0.tdiv 1073741824 = q := by rw [Int.tdiv_eq_ediv_of_nonneg h3, hq]
      have t2 : L0.tmod 1073741824 = r := by rw [Int.tmod_eq_emod_of_nonneg h3, hr]
      have q0 : L0 = q * 1073741824 + r ∧ 0 ≤ r ∧ r < 1073741824 ∧ 0 ≤ q ∧ q ≤ 1000 := by omega
      obtain ⟨q1, q2, q3, q4, q5⟩ := q0
      have q6 : IntKind.i64.wrap q = q := IntWalk.i64_in _ (by omega)
      have q7 : IntKind.i64.wrap r = r := IntWalk.i64_in _ (by omega)
      obtain ⟨H, hH⟩ : ∃ H, H = H0 + q := ⟨_, rfl⟩
      have q8 : IntKind.i64.wrap (H0 + q) = H := by rw [← hH]; exact IntWalk.i64_in _ (by omega)
      have hS : S = H * 1073741824 + r := by rw [← HC.out, hH]; omega
      have t3 : IntKind.i64.wrap (L0.tdiv 1073741824) = q := by rw [t1, q6]
      have t4 : IntKind.i64.wrap (L0.tmod 1073741824) = r := by rw [t2, q7]
      have ways : (decide (1073741824 < H) = true ∧ biE l = 5) ∨ (decide (1073741824 < H) = false ∧ (H == 1073741824) = true ∧ decide (0 < r) = true ∧ biE l = 5) ∨ (decide (1073741824 < H) = false ∧ (H == 1073741824) = true ∧ decide (0 < r) = false ∧ decide (H < -1073741824) = false ∧ biE l = 0) ∨
          (decide (1073741824 < H) = false ∧ (H == 1073741824) = false ∧ decide (H < -1073741824) = true ∧ biE l = 5) ∨ (decide (1073741824 < H) = false ∧ (H == 1073741824) = false ∧ decide (H < -1073741824) = false ∧ biE l = 0) := by
        rw [EE.out]
        by_cases a1 : 1073741824 < H
        · exact .inl ⟨decide_eq_true a1, if_neg (by omega)⟩
        refine .inr ?_
        by_cases a2 : H = 1073741824
        · by_cases a3 : 0 < r
          · exact .inl ⟨decide_eq_false a1, beq_iff_eq.2 a2, decide_eq_true a3, if_neg (by omega)⟩
          · exact .inr (.inl ⟨decide_eq_false a1, beq_iff_eq.2 a2, decide_eq_false a3, decide_eq_false (by omega), if_pos (by omega)⟩)
        · by_cases a4 : H < -1073741824
          · exact .inr (.inr (.inl ⟨decide_eq_false a1, beq_eq_false_iff_ne.2 a2, decide_eq_true a4, if_neg (by omega)⟩))
          · exact .inr (.inr (.inr ⟨decide_eq_false a1, beq_eq_false_iff_ne.2 a2, decide_eq_false a4, if_pos (by omega)⟩))
      have HZ : Hid (biE l = 0 → -1152921504606846976 ≤ S ∧ S ≤ 1152921504606846976) := hide (fun h => by
        have k := EE.out
        rw [h] at k
        by_cases hc : -1152921504606846976 ≤ S ∧ S ≤ 1152921504606846976
        · exact hc
        · rw [if_neg hc] at k; cases k)
      have t5 : L0 % 1073741824 = r := hr.symm
      have t6 : L0 / 1073741824 = q := hq.symm
      clear hq hr hH q1 t1 t2 EE
      rcases ways with ⟨y1, E5⟩ | ⟨y1, y2, y3, E5⟩ | ⟨y1, y2, y3, y4, E0⟩ | ⟨y1, y2, y3, E5⟩ | ⟨y1, y2, y3, E0⟩
      all_goals
        first
          | (have EZ := hide (show biV l = 0 ∧ biE l = 5 from ⟨by rw [EV.out, E5]; rfl, E5⟩)
             clear E5 HZ hS EV HC
             go_wp2
             go_ret2
             exact ⟨by rw [EZ.out.1, EZ.out.2]; rfl, HB.out⟩)
          | (have sb := HZ.out E0
             have EZ := hide (show biV l = S ∧ biE l = 0 from ⟨by rw [EV.out, if_pos E0], E0⟩)
             have EQ := hide (show H * 1073741824 + r = S from hS.symm)
             have sbs : -1152921504606846976 ≤ H * 1073741824 + r ∧ H * 1073741824 + r ≤ 1152921504606846976 := by rw [EQ.out]; exact sb
             clear E0 HZ EV HC hS sb
             go_wp2
             go_ret2
             exact ⟨by rw [EZ.out.1, EZ.out.2, ← EQ.out]; rfl, HB.out⟩)
theorem rbill_any (l : List Itm) (A : Option Addr) (cap : Nat) (w : World) (hl : ItmSl w A l) : Calls Tryz.prog 14 #[.slice A l.length cap] w (RetW (.tuple #[.int .i64 (biV l), .int .i64 (biE l)]) w) := by
  cases h : vI l with
  | true => exact rbill_ok l A cap w hl h
  | false =>
    have E0 : biE l = 1 := by unfold biE; rw [h]; rfl
    have V0 : biV l = 0 := by unfold biV; rw [E0]; rfl
    rw [E0, V0]
    exact rbill_no l A cap w hl h
end Go.Proofs.YtbmocghfpcfmhaaGreatDoor

namespace Go.Proofs.YtbmocghfpcfmhaaGreatDoor
open Go Go.RowKit

theorem nm_same {x y : Itm} (h : (y.nm.toList == x.nm.toList) = true) : y.nm = x.nm := by
  have h := beq_iff_eq.1 h
  cases hy : y.nm; cases hx : x.nm
  rw [hy, hx, ByteArray.toList_eq, ByteArray.toList_eq] at h
  congr
  exact Array.toList_inj.1 h
theorem same_ways (x y : Itm) : ((y.nm.toList == x.nm.toList) = false ∧ same x y = false) ∨ ((y.nm.toList == x.nm.toList) = true ∧ (y.pr == x.pr) = false ∧ same x y = false) ∨ ((y.nm.toList == x.nm.toList) = true ∧ (y.pr == x.pr) = true ∧ same x y = true) := by
  cases h1 : (y.nm.toList == x.nm.toList) with
  | false =>
    refine .inl ⟨rfl, ?_⟩
    cases hs : same x y with
    | false => rfl
    | true =>
      rw [(same_iff.1 hs).1] at h1
      simp at h1
  | true =>
    cases h2 : (y.pr == x.pr) with
    | false =>
      refine .inr (.inl ⟨rfl, rfl, ?_⟩)
      cases hs : same x y with
      | false => rfl
      | true =>
        rw [(same_iff.1 hs).2] at h2
        simp at h2
    | true => exact .inr (.inr ⟨rfl, rfl, same_iff.2 ⟨nm_same h1, beq_iff_eq.1 h2⟩⟩)
theorem opp_nm {l : List Itm} (h : ∀ i (h : i < l.length), l[i].nm.size ≤ maxLen) : ∀ i (h : i < (oppL l).length), (oppL l)[i].nm.size ≤ maxLen := by
  intro i hi
  have hi' : i < l.length := by simpa [oppL] using hi
  have : (oppL l)[i] = oppI l[i] := by simp [oppL]
  rw [this]; exact h i hi'
/-- a bill in memory of the call's own -/
def ItmPost (l : List Itm) (w : World) (e : Ending) (w' : World) : Prop := Below w.heap.size w w' ∧ ∃ (A : Option Addr) (c : Nat), e = .returned (.slice A l.length c) ∧ ItmSl w' A l
set_option maxRecDepth 100000 in
set_option maxHeartbeats 4000000 in
theorem ropp_any (l : List Itm) (A : Option Addr) (cap : Nat) (w : World) (hl : ItmSl w A l) (hv : ∀ x ∈ l, itB x = true) (hn : l.length ≤ 1000) : Calls Tryz.prog 50 #[.slice A l.length cap] w (ItmPost (oppL l) w) := by
  obtain ⟨i0, hi0, hz0, hz1, hz2⟩ := info_parts itm_info
  have HL := hide hl
  have ON := hide (opp_nm hl.1.2)
  have IT := hide (fun k (h : k < l.length) => itB_bd (hv l[k] (List.getElem_mem h)))
  have TK := hide (fun k (h : k < l.length) => (show oppL (l.take (k + 1)) = oppL (l.take k) ++ [oppI l[k]] by rw [List.take_succ_eq_append_getElem h, oppL_snoc]))
  have TA : Hid (l.take l.length = l) := hide (by rw [List.take_length])
  have LT := hide (fun k => (show (oppL (l.take k)).length ≤ 1000 by simp [oppL]; omega))
  clear hl hv
  go_enter Tryz.func50, Tryz.ntmps50
  go_wp2
  have XH := hide (And.intro (Below.refl w.heap.size w) (World.ownsRow_nil w w.heap.size 54 3))
  go_loopw [3, 4] (fun v3 v4 wr => ∃ k : Nat, k ≤ l.length ∧ v4 = .int .i64 (k : Int) ∧ Hid (Below w.heap.size w wr ∧ wr.ownsRow w.heap.size 54 3 v3 (oppL (l.take k)).length (flatItm (oppL (l.take k))))) (fun _ v _ => l.length - (intOf v).toNat)
  case atStart => exact ⟨0, by omega, rfl, XH⟩
  case round =>
    clear XH
    obtain ⟨k, hk, rfl, HY⟩ := hrel
    by_cases hlt : k < l.length
    · have g2 : decide (k < l.length) = true := decide_eq_true hlt
      have g3 : (0 : Int) ≤ (k : Int) := by omega
      have g4 : (k : Int) < (l.length : Int) := by omega
      obtain ⟨p, off, rfl, hbl, hat⟩ := HL.out.2 (by omega)
      have CF := hide (fun W (h : Below w.heap.size w W) => And.intro ((h.cell (p := ⟨p, off + k * 3, none⟩) hbl).trans (hat k hlt).1) (And.intro ((h.cell (p := ⟨p, off + k * 3 + 1, none⟩) hbl).trans (hat k hlt).2.1) ((h.cell (p := ⟨p, off + k * 3 + 2, none⟩) hbl).trans (hat k hlt).2.2)))
      obtain ⟨c0, c1, c2⟩ := CF.out _ HY.out.1
      have TKk := hide (TK.out k hlt)
      have LTk := LT.out k
      obtain ⟨⟨i1, i2⟩, -, -⟩ := IT.out k hlt
      have eo : Hid (oppI l[k] = ⟨l[k].nm, -l[k].am, l[k].pr⟩) := hide rfl
      rw [eo.out] at TKk
      clear eo hat
      generalize l[k] = x at *
      have n1 : wrap64 (-x.am) = -x.am := IntWalk.wrap64_in _ (by omega)
      have n2 : wrap64 (0 - x.am) = -x.am := by rw [Int.zero_sub]; exact n1
      have n3 : IntKind.i64.wrap (-x.am) = -x.am := IntWalk.i64_in _ (by omega)
      have n4 : IntKind.i64.wrap (0 - x.am) = -x.am := by rw [Int.zero_sub]; exact n3
      obtain ⟨S, hS⟩ : ∃ S, S = oppL (l.take k) := ⟨_, rfl⟩
      rw [← hS] at HY TKk LTk
      have wl := HY.out.1.size
      have hpl : p < wr.heap.size := Nat.lt_of_lt_of_le hbl wl
      have RO := hide ((row_drew HY.out.2).alloc (.cells #[.string x.nm, .int .i64 (-x.am), .int .i64 x.pr] 54))
      have RD : Hid (Reads (wr.drew.alloc (.cells #[.string x.nm, .int .i64 (-x.am), .int .i64 x.pr] 54)) (wr.heap.size + 1) 3 (some ⟨wr.heap.size, 0, none⟩) 1 [.string x.nm, .int .i64 (-x.am), .int .i64 x.pr]) := hide ⟨rfl, fun _ => ⟨_, rfl, Nat.lt_succ_self _, World.news_of_block (cs := #[.string x.nm, .int .i64 (-x.am), .int .i64 x.pr]) (t := 54) (fr := (0, 0)) (heap_alloc_new wr.drew _)⟩⟩
      have f4 : ∀ y ∈ [Value.string x.nm, .int .i64 (-x.am), .int .i64 x.pr], y.oneCell' = true := by simp [Value.oneCell']
      have f1 : S.length + 1 ≤ maxLen := by unfold maxLen; omega
      have f2 : (S.length + 1) * 32 ≤ 140737488355328 := by omega
      have f3 : w.heap.size ≤ (wr.drew.alloc (.cells #[.string x.nm, .int .i64 (-x.am), .int .i64 x.pr] 54)).heap.size := by rw [World.size_alloc]; show w.heap.size ≤ wr.heap.size + 1; omega
      have BWA := hide ((HY.out.1.drew).alloc wl (.cells #[.string x.nm, .int .i64 (-x.am), .int .i64 x.pr] 54))
      have EL : Hid ((S ++ [(⟨x.nm, -x.am, x.pr⟩ : Itm)]).length = S.length + 1) := hide (by simp)
      have m1 : ¬ wr.heap.size = p := by omega
      clear HY hS
      go_upto_region 5 with (fail)
      go_region_held3 (fun w' => w'.cell? ⟨p, off + k * 3, none⟩ = some (.string x.nm) ∧ w'.cell? ⟨p, off + k * 3 + 1, none⟩ = some (.int .i64 x.am) ∧ w'.cell? ⟨p, off + k * 3 + 2, none⟩ = some (.int .i64 x.pr)) (go_keep)
        (first
          | (refine step_append_any (w := wr.drew.alloc (.cells #[.string x.nm, .int .i64 (-x.am), .int .i64 x.pr] 54)) (by rfl) _ _ _ (by rfl) w.heap.size 54 i0 _ 3 32 Tryz.underlying40 hi0 hz0 hz1 hz2 rfl (by omega) _ S.length (flatItm S) (by rfl) RO.out (wr.heap.size + 1) _ _ _ [.string x.nm, .int .i64 (-x.am), .int .i64 x.pr] (by rfl) RD.out f4 f1 f2 f3 ?_; intro v4 w4 hown4 hgrow hor; have BW4 := BWA.out.grown hgrow BWA.out.size (fun j hj => (RO.out.lt j hj).1); obtain ⟨d0, d1, d2⟩ := CF.out _ BW4; have HY := hide (And.intro BW4 hown4); clear BW4 hown4 hgrow hor))
      have HZ : Hid (Below w.heap.size w w4 ∧ w4.ownsRow w.heap.size 54 3 v4 (oppL (l.take (k + 1))).length (flatItm (oppL (l.take (k + 1))))) := hide ⟨HY.out.1, by rw [TKk.out, flatItm_append, EL.out]; exact HY.out.2⟩
      clear HY d0 d1 d2 c0 c1 c2
      go_wp2
      go_roundw
      case rel => exact ⟨k + 1, by omega, by go_num, HZ⟩
      case measure => simp [intOf]; omega
    · obtain rfl : k = l.length := by omega
      have g2 : decide (l.length < l.length) = false := decide_eq_false (by omega)
      rw [TA.out] at HY
      generalize oppL l = S at *
      obtain ⟨A4, c4, e4, IS⟩ := ItmSl.of_row HY.out.2 ON.out
      have e4 : _ = Value.slice A4 S.length c4 := e4
      subst e4
      have HP := hide (show ItmPost S w (.returned (.slice A4 S.length c4)) wr from ⟨HY.out.1, A4, c4, rfl, IS⟩)
      clear HY IS
      go_wp2
      go_ret
      exact HP.out
set_option maxRecDepth 100000 in
set_option maxHeartbeats 8000000 in
theorem rmerge_ok (l : List Itm) (A : Option Addr) (cap : Nat) (w : World) (hl : ItmSl w A l) (hvI : vI l = true) :
    Calls Tryz.prog 16 #[.slice A l.length cap] w (BilPost (mgL l) (mgE l) w) := by
  obtain ⟨i0, hi0, hz0, hz1, hz2⟩ := info_parts itm_info
  obtain ⟨hn, hv⟩ := vI_iff.1 hvI
  have V := hide (fun W h => rvalid48_any l A cap W h)
  rw [hvI] at V
  unfold RetW at V
  have HL := hide hl
  have IT := hide (fun k (h : k < l.length) => itB_bd (hv l[k] (List.getElem_mem h)))
  have TB := hide (fun x k => (show -1073741824000 ≤ totN l x k ∧ totN l x k ≤ 1073741824000 by
    have b := tot_bd x (l.take k) fun y hy => hv y (List.mem_of_mem_take hy)
    have : (l.take k).length ≤ 1000 := by rw [List.length_take]; omega
    unfold totN; omega))
  have RY := hide (fun i (hi : i < l.length) h => rfE_yes (l := l) (i := i) hi h)
  have RN := hide (fun h => rfE_no (l := l) h)
  have RA := hide (rfL_all l)
  have ML0 : Hid (mgL l = if mgE l = 0 then mgO l else []) := hide rfl
  have RS := hide (fun i => (show rfL l (i + 1) = rfL l i ++ if (fstB l i && decide (tot (itA l i) l ≠ 0)) = true then [wth l (itA l i)] else [] from rfl))
  have RL := hide (fun i (hi : i ≤ l.length) => (show (rfL l i).length ≤ 1000 by
    rw [rfL_eq l i hi]
    refine Nat.le_trans (List.length_filter_le _ _) ?_
    rw [List.length_map]
    refine Nat.le_trans (fsM_len _) ?_
    rw [List.length_take]; omega))
  have NMo : Hid (∀ i (h : i < (mgO l).length), (mgO l)[i].nm.size ≤ maxLen) := hide (fun i hi => by
    have hm := (List.mem_filter.1 (List.getElem_mem hi)).1
    obtain ⟨j, hj, e⟩ := List.mem_iff_getElem.1 hm
    rw [← e]; exact mgS_nm hl.1.2 j hj)
  clear hl hv hvI
  go_enter Tryz.func16, Tryz.ntmps16
  go_wp2_with fail
  refine (V.out _ HL.out).mono ?_
  rintro e w1 ⟨rfl, hb⟩
  have HB0 := hide hb
  have HL1 := hide (HL.out.below hb)
  have wl0 := hb.size
  clear hb HL V
  go_wp2
  have XH := hide (And.intro (Below.refl w1.heap.size w1) (World.ownsRow_nil w1 w1.heap.size 54 3))
  go_loopw [4, 5] (fun v4 v5 wr => ∃ i : Nat, i ≤ l.length ∧ v5 = .int .i64 (i : Int) ∧ Hid (Below w1.heap.size w1 wr ∧ wr.ownsRow w1.heap.size 54 3 v4 (rfL l i).length (flatItm (rfL l i))) ∧ Hid (∀ j, j < i → amB (tot (itA l j) l) = true)) (fun _ v _ => l.length - (intOf v).toNat)
  case atStart => exact ⟨0, by omega, rfl, XH, hide (fun _ h => by omega)⟩
  case round =>
    clear XH
    obtain ⟨i, hi, rfl, HY, HN⟩ := hrel
    obtain ⟨w2, rfl⟩ : ∃ z, z = wr := ⟨_, rfl⟩
    by_cases hlt : i < l.length
    · have g1 : decide (i < l.length) = true := decide_eq_true hlt
      have gi0 : (0 : Int) ≤ (i : Int) := by omega
      have gi1 : (i : Int) < (l.length : Int) := by omega
      obtain ⟨p, off, rfl, hbl, hat⟩ := HL1.out.2 (by omega)
      have CX := hide (fun W (h : Below w1.heap.size w1 W) => And.intro ((h.cell (p := ⟨p, off + i * 3, none⟩) hbl).trans (hat i hlt).1) (And.intro ((h.cell (p := ⟨p, off + i * 3 + 1, none⟩) hbl).trans (hat i hlt).2.1) ((h.cell (p := ⟨p, off + i * 3 + 2, none⟩) hbl).trans (hat i hlt).2.2)))
      have CY := hide (fun k (hk : k < l.length) W (h : Below w1.heap.size w1 W) => And.intro ((h.cell (p := ⟨p, off + k * 3, none⟩) hbl).trans (hat k hk).1) (And.intro ((h.cell (p := ⟨p, off + k * 3 + 1, none⟩) hbl).trans (hat k hk).2.1) ((h.cell (p := ⟨p, off + k * 3 + 2, none⟩) hbl).trans (hat k hk).2.2)))
      have RYi := hide (RY.out i hlt)
      have RSi := hide (RS.out i)
      have RLi := RL.out i hi
      have eX := itA_at hlt
      have TN := hide (fun k (hk : k < l.length) => totN_succ (l := l) (itA l i) hk)
      have TZ := hide (totN_all l (itA l i))
      have FN := hide (fun k (hk : k < l.length) => fst2_succ (l := l) (i := i) hk)
      have FZ := hide (fst2_all (l := l) (i := i) hlt)
      have TBi := hide (TB.out (itA l i))
      have NK := hide (fun (h : amB (tot (itA l i) l) = true) j (hj : j < i + 1) => (show amB (tot (itA l j) l) = true by
        by_cases e : j = i
        · subst e; exact h
        · exact HN.out j (by omega)))
      rw [← eX] at CX
      clear eX hat
      obtain ⟨x, hx⟩ : ∃ x, x = itA l i := ⟨_, rfl⟩
      rw [← hx] at CX RYi RSi TN TZ TBi NK FN
      clear hx
      have wl := HY.out.1.size
      have B2 := hide HY.out.1
      go_wp2
      go_loopw [6, 7, 8] (fun v6 v7 v8 wr => ∃ k : Nat, k ≤ l.length ∧ v8 = .int .i64 (k : Int) ∧ v6 = .int .i64 (totN l x k) ∧ v7 = .bool (fst2 l i k) ∧ Hid (Below w2.heap.size w2 wr)) (fun _ _ v _ => l.length - (intOf v).toNat)
      case atStart => exact ⟨0, by omega, rfl, rfl, by rw [fst2_zero], hide (Below.refl _ _)⟩
      case round =>
        obtain ⟨k, hk, rfl, rfl, rfl, HB⟩ := hrel
        by_cases hkt : k < l.length
        · have g2 : decide (k < l.length) = true := decide_eq_true hkt
          have gk0 : (0 : Int) ≤ (k : Int) := by omega
          have gk1 : (k : Int) < (l.length : Int) := by omega
          have wl2 := HB.out.size
          have wl3 : w1.heap.size ≤ wr.heap.size := Nat.le_trans wl wl2
          have B3 := hide (below_via B2.out wl HB.out)
          have TNk := hide (TN.out k hkt)
          have FNk := hide (FN.out k hkt)
          have tb0 := TBi.out k
          have tb1 := TBi.out (k + 1)
          rw [TNk.out] at tb1
          have CYk := hide (CY.out k hkt)
          have sw := same_ways x l[k]
          generalize l[k] = y at *
          obtain ⟨d0, d1, d2⟩ := CYk.out _ B3.out
          generalize totN l x k = t0 at *
          generalize fst2 l i k = f0 at *
          have NE : Nonempty (OwnW wr []) := ⟨⟨_, Own.start wr⟩⟩
          have D1 := fun z : OwnW wr [] => CX.out _ (below_via B3.out wl3 z.own.1)
          have D2 := fun z : OwnW wr [] => CYk.out _ (below_via B3.out wl3 z.own.1)
          rcases sw with ⟨s1, s3⟩ | ⟨s1, s2, s3⟩ | ⟨s1, s2, s3⟩
          iterate 2
            · rw [s3] at TNk FNk
              have TE : Hid (totN l x (k + 1) = t0) := hide (by rw [TNk.out]; simp)
              have FE : Hid (fst2 l i (k + 1) = f0) := hide (by rw [FNk.out]; simp)
              clear s3 TNk FNk tb1
              go_upto_region 11 with (fail)
              refine wp_region_own (w := wr) (L := []) (by kernel_rfl) (by kernel_rfl) (Own.start wr) ?_
              repeat (go_big_quiet_step (fail))
              refine wpQuiet_nil ?_
              rintro W3 ⟨⟨W3, HO⟩, rfl⟩
              have HB3 := hide (below_via HB.out wl2 HO.1)
              clear NE D1 D2 HO d0 d1 d2
              go_wp2
              go_roundw
              case rel => exact ⟨k + 1, by omega, by go_num, by rw [TE.out], by rw [FE.out], HB3⟩
              case measure => simp [intOf]; omega
          · rw [s3] at TNk FNk tb1
            have tb2 : -1073741824000 ≤ t0 + y.am ∧ t0 + y.am ≤ 1073741824000 := tb1
            have TE : Hid (totN l x (k + 1) = t0 + y.am) := hide (by rw [TNk.out]; simp)
            have FE : Hid (fst2 l i (k + 1) = (f0 && decide (i ≤ k))) := hide (by rw [FNk.out]; simp)
            clear s3 TNk FNk tb1
            go_upto_region 11 with (fail)
            refine wp_region_own (w := wr) (L := []) (by kernel_rfl) (by kernel_rfl) (Own.start wr) ?_
            repeat (go_big_quiet_step (fail))
            refine wpQuiet_nil ?_
            rintro W3 ⟨⟨W3, HO⟩, rfl⟩
            have HB3 := hide (below_via HB.out wl2 HO.1)
            have d1' := (CYk.out _ (below_via B2.out wl HB3.out)).2.1
            clear NE D1 D2 HO d0 d1 d2
            cases f0
            · go_wp2
              go_roundw
              case rel => exact ⟨k + 1, by omega, by go_num, by rw [TE.out], by rw [FE.out]; rfl, HB3⟩
              case measure => simp [intOf]; omega
            · by_cases hik : i ≤ k
              · have o1 : decide (i ≤ k) = true := decide_eq_true hik
                go_wp2
                go_roundw
                case rel => exact ⟨k + 1, by omega, by go_num, by rw [TE.out], by rw [FE.out, o1]; rfl, HB3⟩
                case measure => simp [intOf]; omega
              · have o1 : decide (i ≤ k) = false := decide_eq_false hik
                go_wp2
                go_roundw
                case rel => exact ⟨k + 1, by omega, by go_num, by rw [TE.out], by rw [FE.out, o1]; rfl, HB3⟩
                case measure => simp [intOf]; omega
        · obtain rfl : k = l.length := by omega
          have g2 : decide (l.length < l.length) = false := decide_eq_false (by omega)
          have tb0 := TBi.out l.length
          have aeq : Hid (amB (tot x l) = (decide (-1073741824 ≤ tot x l) && decide (tot x l ≤ 1073741824))) := hide rfl
          rw [TZ.out] at tb0 ⊢
          rw [FZ.out]
          have weq : Hid (wth l x = ⟨x.nm, tot x l, x.pr⟩) := hide rfl
          have wl2 := HB.out.size
          have wl3 : w1.heap.size ≤ wr.heap.size := Nat.le_trans wl wl2
          have B3 := hide (below_via B2.out wl HB.out)
          have R3 := hide (row_below HY.out.2 HB.out)
          clear TN TZ FN FZ TBi CY HY B2
          generalize tot x l = t0 at *
          generalize fstB l i = f0 at *
          have ways : (decide (t0 < -1073741824) = true ∧ amB t0 = false) ∨ (decide (t0 < -1073741824) = false ∧ decide (1073741824 < t0) = true ∧ amB t0 = false) ∨ (decide (t0 < -1073741824) = false ∧ decide (1073741824 < t0) = false ∧ amB t0 = true) := by
            rw [aeq.out]
            by_cases a1 : t0 < -1073741824
            · exact .inl ⟨decide_eq_true a1, by rw [decide_eq_false (show ¬ -1073741824 ≤ t0 by omega)]; rfl⟩
            refine .inr ?_
            by_cases a2 : 1073741824 < t0
            · exact .inl ⟨decide_eq_false a1, decide_eq_true a2, by rw [decide_eq_false (show ¬ t0 ≤ 1073741824 by omega)]; simp⟩
            · exact .inr ⟨decide_eq_false a1, decide_eq_false a2, by rw [decide_eq_true (show -1073741824 ≤ t0 by omega), decide_eq_true (show t0 ≤ 1073741824 by omega)]; rfl⟩
          clear aeq
          rcases ways with ⟨y1, ea⟩ | ⟨y1, y2, ea⟩ | ⟨y1, y2, ea⟩
          iterate 2
            · have E5 := RYi.out ea
              have M0 : mgL l = [] := by rw [ML0.out, E5]; rfl
              have HP := hide (show BilPost (mgL l) (mgE l) w (.returned (.tuple #[.slice none 0 0, .int .i64 5])) wr from ⟨below_via HB0.out wl0 B3.out, none, 0, by rw [M0, E5]; rfl, by rw [M0]; exact ItmSl.nil _ _⟩)
              clear E5 M0 RYi NK RSi ea
              go_wp2
              go_ret2
              exact HP.out
          · have HN2 := hide (NK.out ea)
            clear NK RYi ea
            have ways2 : (f0 = false ∧ rfL l (i + 1) = rfL l i) ∨ (f0 = true ∧ (t0 != 0) = false ∧ rfL l (i + 1) = rfL l i) ∨ (f0 = true ∧ (t0 != 0) = true ∧ rfL l (i + 1) = rfL l i ++ [⟨x.nm, t0, x.pr⟩]) := by
              rw [RSi.out, weq.out]
              cases f0
              · exact .inl ⟨rfl, by simp⟩
              · by_cases z : t0 = 0
                · exact .inr (.inl ⟨rfl, by simp [z], by simp [z]⟩)
                · exact .inr (.inr ⟨rfl, by simp [z], by simp [z]⟩)
            clear RSi weq
            rcases ways2 with ⟨rfl, er⟩ | ⟨rfl, z1, er⟩ | ⟨rfl, z1, er⟩
            iterate 2
              · have HZ : Hid (Below w1.heap.size w1 wr ∧ wr.ownsRow w1.heap.size 54 3 u4 (rfL l (i + 1)).length (flatItm (rfL l (i + 1)))) := hide ⟨B3.out, by rw [er]; exact R3.out⟩
                clear er R3
                go_wp2
                go_roundw
                case rel => exact ⟨i + 1, by omega, by go_num, HZ, HN2⟩
                case measure => simp [intOf]; omega
            · obtain ⟨S, hS⟩ : ∃ S, S = rfL l i := ⟨_, rfl⟩
              rw [← hS] at er R3 RLi
              have ER := hide er
              clear er hS
              obtain ⟨c0, c1, c2⟩ := CX.out _ B3.out
              have RO := hide ((row_drew R3.out).alloc (.cells #[.string x.nm, .int .i64 t0, .int .i64 x.pr] 54))
              have RD : Hid (Reads (wr.drew.alloc (.cells #[.string x.nm, .int .i64 t0, .int .i64 x.pr] 54)) (wr.heap.size + 1) 3 (some ⟨wr.heap.size, 0, none⟩) 1 [.string x.nm, .int .i64 t0, .int .i64 x.pr]) := hide ⟨rfl, fun _ => ⟨_, rfl, Nat.lt_succ_self _, World.news_of_block (cs := #[.string x.nm, .int .i64 t0, .int .i64 x.pr]) (t := 54) (fr := (0, 0)) (heap_alloc_new wr.drew _)⟩⟩
              have f4 : ∀ y ∈ [Value.string x.nm, .int .i64 t0, .int .i64 x.pr], y.oneCell' = true := by simp [Value.oneCell']
              have f1 : S.length + 1 ≤ maxLen := by unfold maxLen; omega
              have f2 : (S.length + 1) * 32 ≤ 140737488355328 := by omega
              have f3 : w1.heap.size ≤ (wr.drew.alloc (.cells #[.string x.nm, .int .i64 t0, .int .i64 x.pr] 54)).heap.size := by rw [World.size_alloc]; show w1.heap.size ≤ wr.heap.size + 1; omega
              have BWA := hide ((B3.out.drew).alloc wl3 (.cells #[.string x.nm, .int .i64 t0, .int .i64 x.pr] 54))
              have EL : Hid ((S ++ [(⟨x.nm, t0, x.pr⟩ : Itm)]).length = S.length + 1) := hide (by simp)
              have hpl : p < wr.heap.size := Nat.lt_of_lt_of_le hbl wl3
              have m1 : ¬ wr.heap.size = p := by omega
              clear R3 B3
              go_upto_region 17 with (fail)
              go_region_held3 (fun w' => w'.cell? ⟨p, off + i * 3, none⟩ = some (.string x.nm) ∧ w'.cell? ⟨p, off + i * 3 + 2, none⟩ = some (.int .i64 x.pr)) (go_keep)
                (first
                  | (refine step_append_any (w := wr.drew.alloc (.cells #[.string x.nm, .int .i64 t0, .int .i64 x.pr] 54)) (by rfl) _ _ _ (by rfl) w1.heap.size 54 i0 _ 3 32 Tryz.underlying40 hi0 hz0 hz1 hz2 rfl (by omega) _ S.length (flatItm S) (by rfl) RO.out (wr.heap.size + 1) _ _ _ [.string x.nm, .int .i64 t0, .int .i64 x.pr] (by rfl) RD.out f4 f1 f2 f3 ?_; intro v4 w4 hown4 hgrow hor; have BW4 := BWA.out.grown hgrow BWA.out.size (fun j hj => (RO.out.lt j hj).1); obtain ⟨d0, d1, d2⟩ := CX.out _ BW4; have HY := hide (And.intro BW4 hown4); clear BW4 hown4 hgrow hor))
              have HZ : Hid (Below w1.heap.size w1 w4 ∧ w4.ownsRow w1.heap.size 54 3 v4 (rfL l (i + 1)).length (flatItm (rfL l (i + 1)))) := hide ⟨HY.out.1, by rw [ER.out, flatItm_append, EL.out]; exact HY.out.2⟩
              clear HY d0 d1 d2 c0 c1 c2
              go_wp2
              go_roundw
              case rel => exact ⟨i + 1, by omega, by go_num, HZ, HN2⟩
              case measure => simp [intOf]; omega
    · obtain rfl : i = l.length := by omega
      have g1 : decide (l.length < l.length) = false := decide_eq_false (by omega)
      have E0 := RN.out (fun j hj => HN.out j hj)
      have M0 : mgL l = mgO l := by rw [ML0.out, if_pos E0]
      rw [RA.out] at HY
      have wl := HY.out.1.size
      obtain ⟨A8, c8, e8, IS⟩ := ItmSl.of_row HY.out.2 NMo.out
      have e8 : _ = Value.slice A8 (mgO l).length c8 := e8
      subst e8
      have HP := hide (show BilPost (mgL l) (mgE l) w (.returned (.tuple #[.slice A8 (mgO l).length c8, .int .i64 0])) w2 from ⟨below_via HB0.out wl0 HY.out.1, A8, c8, by rw [M0, E0], by rw [M0]; exact IS⟩)
      clear HY IS E0 M0
      go_wp2
      go_ret2
      exact HP.out
end Go.Proofs.YtbmocghfpcfmhaaGreatDoor
