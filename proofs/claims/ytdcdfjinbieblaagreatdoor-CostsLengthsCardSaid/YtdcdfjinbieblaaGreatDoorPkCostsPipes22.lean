/- Parts of one proof, joined: The reference's fits, Right and Find of sections: what each returns; nothing that was there is turned. (Printed by gen_ca.py.). A valid network without a link is valid. The program's Valid and Find of catalogues: what each returns; nothing that was there is turned. (Printed by gen_ca.py.). The program's Pipes: the bill of the pipes in memory of the call's own, or the error; nothing that was there is turned. (Printed by gen_pif.py.). -/
import Derived.Test.YtdcdfjinbieblaaGreatDoorPkCostsPipes21
import Derived.Test.YtdcdfjinbieblaaGreatDoorPkCostsPipes20
import Derived.Test.YtdcdfjinbieblaaGreatDoorPkCostsPipes16
import Derived.Test.YtdcdfjinbieblaaGreatDoorPkCostsPipes18
import Derived.Test.YtdcdfjinbieblaaGreatDoorPkCostsPipes17
import Derived.Shelf.Abstract
import Derived.Test.YtdcdfjinbieblaaGreatDoorPkCostsPipes9
import Derived.StringKeys
import Derived.Test.YtdcdfjinbieblaaGreatDoorPkCostsPipes6
namespace Go.Proofs.YtdcdfjinbieblaaGreatDoor
open Go Go.RowKit

set_option maxRecDepth 100000 in
set_option maxHeartbeats 2000000 in
theorem rfits_any (t : List Knt) (A : Option Addr) (cap : Nat) (d most : Int) (w : World) (hl : KnSl w A t) : Calls Tryz.prog 70 #[.slice A t.length cap, .int .i64 d, .int .i64 most] w (RetW (.bool (shpB t d most)) w) := by
  have V := hide (fun W h => rtab_any t A cap W h)
  unfold RetW at V
  have HL := hide hl
  cases hv : vKn t with
  | false =>
    rw [hv] at V
    have E : Hid (shpB t d most = false) := hide (by unfold shpB; rw [hv]; rfl)
    clear hl hv
    generalize shpB t d most = v at *
    go_enter Tryz.func70, Tryz.ntmps70
    go_wp2_with fail
    refine (V.out _ HL.out).mono ?_
    rintro e w' ⟨rfl, hb⟩
    go_wp2
    go_ret
    exact ⟨ret_bool E.out.symm, hb⟩
  | true =>
    rw [hv] at V
    obtain ⟨b, off, j, rfl, hbl, g0, g1, g2, g3, hlen, CC⟩ := kn_ends hl hv
    have EV : Hid (shpB t d most = (decide ((t.getD 0 ⟨0, 0⟩).x = 0) && decide ((t.getD 0 ⟨0, 0⟩).y = 0) && (decide ((t.getD (t.length - 1) ⟨0, 0⟩).x = d) && decide ((t.getD (t.length - 1) ⟨0, 0⟩).y ≤ most)))) := hide (by unfold shpB; rw [hv]; simp only [Bool.true_and])
    replace CC := hide CC
    clear hl hv
    generalize shpB t d most = v at *
    generalize t.getD 0 ⟨0, 0⟩ = p at *
    generalize t.getD (t.length - 1) ⟨0, 0⟩ = q at *
    have WY := ways4 (p.x == 0) (p.y == 0) (q.x == d) (decide (q.y ≤ most))
    rw [beqd p.x, beqd p.y, beqd q.x, ← EV.out, ← beqd p.x, ← beqd p.y, ← beqd q.x] at WY
    replace WY := hide WY
    clear EV
    rcases WY.out with ⟨y1, rfl⟩ | ⟨y1, y2, rfl⟩ | ⟨y1, y2, y3, rfl⟩ | ⟨y1, y2, y3, rfl⟩
    all_goals
      clear WY
      go_enter Tryz.func70, Tryz.ntmps70
      go_wp2_with fail
      refine (V.out _ HL.out).mono ?_
      rintro e w' ⟨rfl, hb⟩
      obtain ⟨-, -, c3, c4⟩ := CC.out w' hb
      have X := (Own.start w').alloc #[.int .i64 q.x, .int .i64 q.y] 121
      have hr := X.r1
      have HB := hide (below_via hb hb.size X.1)
      obtain ⟨c1, c2, -, -⟩ := CC.out _ HB.out
      clear hb X
      go_wp2
      go_ret
      exact ⟨ret_bool rfl, HB.out⟩
set_option maxRecDepth 100000 in
set_option maxHeartbeats 4000000 in
theorem rright_raw (s : Sec) (w : World) (h1 : s.nm.size ≤ maxLen) (h2 : KnSl w s.ar.A s.ar.l) (h3 : KnSl w s.cv.A s.cv.l) : Calls Tryz.prog 36 #[.agg #[.string s.nm, .int .i64 s.he, .int .i64 s.pr, .slice s.ar.A s.ar.l.length s.ar.c, .slice s.cv.A s.cv.l.length s.cv.c]] w (RetW (.bool ((((((nameB s.nm.data.toList && (!decide (s.he < 1))) && (!decide (32768 < s.he))) && (!decide (s.pr < 0))) && (!decide (1073741824 < s.pr))) && shpB s.ar.l s.he 1073741824) && shpB s.cv.l s.he 1099511627776)) w) := by
  have NB := hide (fun W => risname_any s.nm W h1)
  have C1 := hide (fun W h => rfits_any s.ar.l s.ar.A s.ar.c s.he 1073741824 W h)
  have C2 := hide (fun W h => rfits_any s.cv.l s.cv.A s.cv.c s.he 1099511627776 W h)
  unfold RetW at C1 C2
  have H2 := hide h2
  have H3 := hide h3
  have X := (Own.start w).alloc #[.string s.nm, .int .i64 s.he, .int .i64 s.pr, .slice s.ar.A s.ar.l.length s.ar.c, .slice s.cv.A s.cv.l.length s.cv.c] 53
  have hr := X.r1
  replace X := hide X
  clear h1 h2 h3
  have WY : (nameB s.nm.data.toList = false ∧ ((((((nameB s.nm.data.toList && (!decide (s.he < 1))) && (!decide (32768 < s.he))) && (!decide (s.pr < 0))) && (!decide (1073741824 < s.pr))) && shpB s.ar.l s.he 1073741824) && shpB s.cv.l s.he 1099511627776) = false) ∨ (nameB s.nm.data.toList = true ∧ decide (s.he < 1) = true ∧ ((((((nameB s.nm.data.toList && (!decide (s.he < 1))) && (!decide (32768 < s.he))) && (!decide (s.pr < 0))) && (!decide (1073741824 < s.pr))) && shpB s.ar.l s.he 1073741824) && shpB s.cv.l s.he 1099511627776) = false) ∨ (nameB s.nm.data.toList = true ∧ decide (s.he < 1) = false ∧ decide (32768 < s.he) = true ∧ ((((((nameB s.nm.data.toList && (!decide (s.he < 1))) && (!decide (32768 < s.he))) && (!decide (s.pr < 0))) && (!decide (1073741824 < s.pr))) && shpB s.ar.l s.he 1073741824) && shpB s.cv.l s.he 1099511627776) = false) ∨ (nameB s.nm.data.toList = true ∧ decide (s.he < 1) = false ∧ decide (32768 < s.he) = false ∧ decide (s.pr < 0) = true ∧ ((((((nameB s.nm.data.toList && (!decide (s.he < 1))) && (!decide (32768 < s.he))) && (!decide (s.pr < 0))) && (!decide (1073741824 < s.pr))) && shpB s.ar.l s.he 1073741824) && shpB s.cv.l s.he 1099511627776) = false) ∨ (nameB s.nm.data.toList = true ∧ decide (s.he < 1) = false ∧ decide (32768 < s.he) = false ∧ decide (s.pr < 0) = false ∧ decide (1073741824 < s.pr) = true ∧ ((((((nameB s.nm.data.toList && (!decide (s.he < 1))) && (!decide (32768 < s.he))) && (!decide (s.pr < 0))) && (!decide (1073741824 < s.pr))) && shpB s.ar.l s.he 1073741824) && shpB s.cv.l s.he 1099511627776) = false) ∨ (nameB s.nm.data.toList = true ∧ decide (s.he < 1) = false ∧ decide (32768 < s.he) = false ∧ decide (s.pr < 0) = false ∧ decide (1073741824 < s.pr) = false ∧ shpB s.ar.l s.he 1073741824 = false ∧ ((((((nameB s.nm.data.toList && (!decide (s.he < 1))) && (!decide (32768 < s.he))) && (!decide (s.pr < 0))) && (!decide (1073741824 < s.pr))) && shpB s.ar.l s.he 1073741824) && shpB s.cv.l s.he 1099511627776) = false) ∨ (nameB s.nm.data.toList = true ∧ decide (s.he < 1) = false ∧ decide (32768 < s.he) = false ∧ decide (s.pr < 0) = false ∧ decide (1073741824 < s.pr) = false ∧ shpB s.ar.l s.he 1073741824 = true ∧ ((((((nameB s.nm.data.toList && (!decide (s.he < 1))) && (!decide (32768 < s.he))) && (!decide (s.pr < 0))) && (!decide (1073741824 < s.pr))) && shpB s.ar.l s.he 1073741824) && shpB s.cv.l s.he 1099511627776) = shpB s.cv.l s.he 1099511627776) := by
    generalize nameB s.nm.data.toList = p0
    generalize decide (s.he < 1) = p1
    generalize decide (32768 < s.he) = p2
    generalize decide (s.pr < 0) = p3
    generalize decide (1073741824 < s.pr) = p4
    generalize shpB s.ar.l s.he 1073741824 = p5
    generalize shpB s.cv.l s.he 1099511627776 = p6
    revert p0 p1 p2 p3 p4 p5 p6
    decide
  generalize ((((((nameB s.nm.data.toList && (!decide (s.he < 1))) && (!decide (32768 < s.he))) && (!decide (s.pr < 0))) && (!decide (1073741824 < s.pr))) && shpB s.ar.l s.he 1073741824) && shpB s.cv.l s.he 1099511627776) = v at *
  generalize nameB s.nm.data.toList = r0 at *
  generalize shpB s.ar.l s.he 1073741824 = r5 at *
  generalize shpB s.cv.l s.he 1099511627776 = r6 at *
  replace WY := hide WY
  rcases WY.out with ⟨rfl, rfl⟩ | ⟨rfl, y1, rfl⟩ | ⟨rfl, y1, y2, rfl⟩ | ⟨rfl, y1, y2, y3, rfl⟩ | ⟨rfl, y1, y2, y3, y4, rfl⟩ | ⟨rfl, y1, y2, y3, y4, rfl, rfl⟩ | ⟨rfl, y1, y2, y3, y4, rfl, rfl⟩
  ·
    clear WY
    go_enter Tryz.func36, Tryz.ntmps36
    go_wp2_with fail
    refine (NB.out _).mono ?_
    rintro e w' ⟨rfl, rfl⟩
    go_wp2
    go_ret
    exact ⟨ret_bool (by simp), X.out.1⟩
  ·
    clear WY
    go_enter Tryz.func36, Tryz.ntmps36
    go_wp2_with fail
    refine (NB.out _).mono ?_
    rintro e w' ⟨rfl, rfl⟩
    go_wp2
    go_ret
    exact ⟨ret_bool (by simp), X.out.1⟩
  ·
    clear WY
    go_enter Tryz.func36, Tryz.ntmps36
    go_wp2_with fail
    refine (NB.out _).mono ?_
    rintro e w' ⟨rfl, rfl⟩
    go_wp2
    go_ret
    exact ⟨ret_bool (by simp), X.out.1⟩
  ·
    clear WY
    go_enter Tryz.func36, Tryz.ntmps36
    go_wp2_with fail
    refine (NB.out _).mono ?_
    rintro e w' ⟨rfl, rfl⟩
    go_wp2
    go_ret
    exact ⟨ret_bool (by simp), X.out.1⟩
  ·
    clear WY
    go_enter Tryz.func36, Tryz.ntmps36
    go_wp2_with fail
    refine (NB.out _).mono ?_
    rintro e w' ⟨rfl, rfl⟩
    go_wp2
    go_ret
    exact ⟨ret_bool (by simp), X.out.1⟩
  ·
    clear WY
    go_enter Tryz.func36, Tryz.ntmps36
    go_wp2_with fail
    refine (NB.out _).mono ?_
    rintro e w' ⟨rfl, rfl⟩
    go_wp2_with fail
    refine (C1.out _ (H2.out.below X.out.1)).mono ?_
    rintro e w' ⟨rfl, hb⟩
    replace X := hide (X.out.to hb)
    clear hb hr
    have hr := X.out.r1
    go_wp2
    go_ret
    exact ⟨ret_bool (by simp), X.out.1⟩
  ·
    clear WY
    go_enter Tryz.func36, Tryz.ntmps36
    go_wp2_with fail
    refine (NB.out _).mono ?_
    rintro e w' ⟨rfl, rfl⟩
    go_wp2_with fail
    refine (C1.out _ (H2.out.below X.out.1)).mono ?_
    rintro e w' ⟨rfl, hb⟩
    replace X := hide (X.out.to hb)
    clear hb hr
    have hr := X.out.r1
    go_wp2_with fail
    refine (C2.out _ (H3.out.below X.out.1)).mono ?_
    rintro e w' ⟨rfl, hb⟩
    replace X := hide (X.out.to hb)
    clear hb hr
    have hr := X.out.r1
    go_wp2
    go_ret
    exact ⟨ret_bool (by simp), X.out.1⟩
theorem rright_any (s : Sec) (w : World) (h1 : s.nm.size ≤ maxLen) (h2 : KnSl w s.ar.A s.ar.l) (h3 : KnSl w s.cv.A s.cv.l) : Calls Tryz.prog 36 #[s.val] w (RetW (.bool (secB s)) w) := by
  have e : secB s = ((((((nameB s.nm.data.toList && !decide (s.he < 1)) && !decide (32768 < s.he)) && !decide (s.pr < 0)) && !decide (1073741824 < s.pr)) && shpB s.ar.l s.he 1073741824) && shpB s.cv.l s.he 1099511627776) := by
    rw [lt_flip s.he, lt_flip 32768, lt_flip s.pr, lt_flip 1073741824]
    unfold secB inB; simp only [Bool.and_assoc, Bool.not_not]
  rw [e]
  exact rright_raw s w h1 h2 h3
set_option maxRecDepth 100000 in
set_option maxHeartbeats 2000000 in
theorem rseFind_any (l : List Sec) (A : Option Addr) (cap : Nat) (s : ByteArray) (w : World) (h : SecSl w A l) : Calls Tryz.prog 14 #[.slice A l.length cap, .string s] w (RetW (.int .i64 (seIx l s)) w) := by
  have hlen : l.length ≤ 9223372036854775807 := by have := h.1.1; unfold maxLen at this; omega
  have H := hide h
  clear h
  show Calls Tryz.prog _ _ w (RetW (.int .i64 (ixB (fun x => x.nm.toList == s.toList) l)) w)
  go_enter Tryz.func14, Tryz.ntmps14
  go_wp2
  go_loopw [5] (fun v5 wr => ∃ k : Nat, k ≤ l.length ∧ v5 = .int .i64 k ∧ Hid (Below w.heap.size w wr) ∧ Hid (∀ i (hi : i < l.length), i < k → (l[i].nm.toList == s.toList) = false)) (fun v5 _ => l.length - (intOf v5).toNat)
  case atStart => exact ⟨0, Nat.zero_le _, rfl, hide (Below.refl _ _), hide (fun _ _ h => by omega)⟩
  case round =>
    obtain ⟨k, hk, rfl, HW, hno⟩ := hrel
    by_cases hlt : k < l.length
    · obtain ⟨b, off, rfl, hbl, hat⟩ := (H.out.below HW.out).2 (by omega)
      have c0 := (hat k hlt).c0
      have g0 : (0 : Int) ≤ (k : Int) := by omega
      have g1 : (k : Int) < (l.length : Int) := by omega
      have d1 : decide (k < l.length) = true := decide_eq_true hlt
      clear hat
      by_cases hs : (l[k].nm.toList == s.toList) = true
      · have E := hide (ixB_yes (p := fun x : Sec => x.nm.toList == s.toList) hlt (fun i hi hik => hno.out i hi hik) hs)
        have hs' := hide hs
        clear hno hs
        generalize l[k] = o at *
        have hs := hs'.out
        clear hs'
        go_wp2
        go_ret
        exact ⟨ret_int E.out.symm, HW.out⟩
      · have hs : (l[k].nm.toList == s.toList) = false := by simpa using hs
        have hno2 := hide (fun i (hi : i < l.length) (hik : i < k + 1) => (show (l[i].nm.toList == s.toList) = false by
          by_cases e : i = k
          · subst e; exact hs
          · exact hno.out i hi (by omega)))
        clear hno
        generalize l[k] = o at *
        go_wp2
        go_roundw
        case rel => exact ⟨k + 1, by omega, by go_num, HW, hno2⟩
        case measure => simp [intOf]; omega
    · have d1 : decide (k < l.length) = false := decide_eq_false hlt
      go_wp2
      go_ret
      exact ⟨ret_int (ixB_no fun i hi => hno.out i hi (by omega)).symm, HW.out⟩
theorem secOk_eq {sl : List Sec} {k : Nat} (hk : k < sl.length) : secOk sl k = (secB sl[k] && decide (seIx sl sl[k].nm = k)) := by
  simp [secOk, List.getElem?_eq_getElem hk]
theorem secOk_no {sl : List Sec} {k : Nat} (hk : k < sl.length) (h : secB sl[k] = false ∨ ¬ seIx sl sl[k].nm = (k : Int)) : secOk sl k = false := by
  rw [secOk_eq hk]
  rcases h with h | h
  · rw [h]; rfl
  · rw [decide_eq_false h, Bool.and_false]
theorem secOk_yes {sl : List Sec} {k : Nat} (hk : k < sl.length) (h : secB sl[k] = true) (h2 : seIx sl sl[k].nm = (k : Int)) : secOk sl k = true := by
  rw [secOk_eq hk, h, decide_eq_true h2]; rfl
theorem vCat_many {sl : List Sec} (h : 40 < sl.length) : vCat sl = false := by
  unfold vCat; rw [decide_eq_false (by omega)]; rfl
theorem vCat_bad {sl : List Sec} {k : Nat} (hk : k < sl.length) (h : secOk sl k = false) : vCat sl = false := by
  cases e : vCat sl with
  | false => rfl
  | true =>
    unfold vCat at e
    simp only [Bool.and_eq_true, decide_eq_true_eq, List.all_eq_true, List.mem_range] at e
    rw [e.2 k hk] at h; cases h
theorem vCat_all {sl : List Sec} (hn : sl.length ≤ 40) (h : ∀ i, i < sl.length → secOk sl i = true) : vCat sl = true := by
  unfold vCat
  simp only [Bool.and_eq_true, decide_eq_true_eq, List.all_eq_true, List.mem_range]
  exact ⟨hn, h⟩
end Go.Proofs.YtdcdfjinbieblaaGreatDoor

namespace Go.Proofs.YtdcdfjinbieblaaGreatDoor
open Go Go.RowKit

theorem ixB_first {α : Type} {p : α → Bool} {l : List α} {k : Nat} (h : ixB p l = (k : Int)) : ∀ j (hj : j < l.length), j < k → p l[j] = false := by
  intro j hj hjk
  unfold ixB at h
  cases e : l.findIdx? p with
  | none => rw [e] at h; simp at h
  | some i =>
    rw [e] at h
    have hi : i = k := by have h2 : (i : Int) = (k : Int) := h; omega
    subst hi
    have := (List.findIdx?_eq_some_iff_getElem.1 e).2.2 j hjk
    simpa using this
def skp (k i : Nat) : Nat := if i < k then i else i + 1
theorem skp_at {α : Type} (l : List α) (k i : Nat) (hi : i < (l.eraseIdx k).length) (h2 : skp k i < l.length) : (l.eraseIdx k)[i] = l[skp k i] := by
  rw [List.getElem_eraseIdx]
  unfold skp
  split
  · rename_i c; simp
  · rename_i c; simp
theorem vNet_erase {nl : List Nod} {ll : List Lnk} (h : vNet nl ll = true) {k : Nat} (hk : k < ll.length) : vNet nl (ll.eraseIdx k) = true := by
  have hlen : (ll.eraseIdx k).length = ll.length - 1 := List.length_eraseIdx_of_lt hk
  have h0 := h
  unfold vNet at h ⊢
  simp only [Bool.and_eq_true, decide_eq_true_eq, List.all_eq_true, List.mem_range] at h ⊢
  refine ⟨⟨h.1.1, by omega⟩, h.2.1, fun i hi => ?_⟩
  have hs : skp k i < ll.length := by unfold skp; split <;> omega
  have q := h.2.2 (skp k i) hs
  simp only [lnkOk, List.getElem?_eq_getElem hs, List.getElem?_eq_getElem hi, skp_at ll k i hi hs, Bool.and_eq_true, decide_eq_true_eq] at q ⊢
  refine ⟨⟨⟨q.1.1.1, ?_⟩, q.1.2⟩, q.2⟩
  have u := q.1.1.2
  unfold lkIx at u ⊢
  refine ixB_yes hi (fun j hj hji => ?_) (by rw [skp_at ll k i hi hs]; simp)
  have hsj : skp k j < ll.length := by unfold skp; split <;> omega
  rw [skp_at ll k j hj hsj]
  exact ixB_first u (skp k j) hsj (by unfold skp; split <;> split <;> omega)
end Go.Proofs.YtdcdfjinbieblaaGreatDoor

namespace Go.Proofs.YtdcdfjinbieblaaGreatDoor
open Go Go.RowKit

/-- the names of the first k sections, as keys -/
def kyC (l : List Sec) (k : Nat) (t : Lit) : Prop := ∃ i, ∃ h : i < l.length, i < k ∧ t = .string l[i].nm.data.toList
theorem kyC_zero (l : List Sec) : kyC l 0 = fun _ => False := by
  funext t; apply propext
  exact ⟨fun ⟨i, _, h, _⟩ => by omega, fun h => h.elim⟩
theorem kyC_succ {l : List Sec} {k : Nat} (hk : k < l.length) : (fun t => t = .string l[k].nm.data.toList ∨ kyC l k t) = kyC l (k + 1) := by
  funext t; apply propext
  constructor
  · rintro (h | ⟨i, hi, hik, h⟩)
    · exact ⟨k, hk, by omega, h⟩
    · exact ⟨i, hi, by omega, h⟩
  · rintro ⟨i, hi, hik, h⟩
    by_cases e : i = k
    · subst e; exact .inl h
    · exact .inr ⟨i, hi, by omega, h⟩
theorem nm_key {a b : ByteArray} : ((Lit.string a.data.toList) = .string b.data.toList) ↔ (b.toList == a.toList) = true := by
  rw [beq_iff_eq, ByteArray.toList_eq, ByteArray.toList_eq]
  constructor
  · intro h; injection h with h; exact h.symm
  · intro h; rw [h]
theorem kyC_ix {l : List Sec} {k : Nat} (hk : k < l.length) : kyC l k (.string l[k].nm.data.toList) ↔ ¬ seIx l l[k].nm = (k : Int) := by
  unfold seIx
  constructor
  · rintro ⟨i, hi, hik, h⟩ e
    have q := ixB_first e i hi hik
    rw [nm_key.1 h] at q
    cases q
  · intro h
    refine Classical.byContradiction fun hn => h ?_
    refine ixB_yes hk (fun i hi hik => ?_) (by simp)
    cases e : (l[i].nm.toList == l[k].nm.toList) with
    | false => rfl
    | true => exact absurd ⟨i, hi, hik, nm_key.2 e⟩ hn
theorem str_keyed : Maps.Keyed Tryz.prog 9 := Maps.string_keyed Tryz.underlying9
set_option maxRecDepth 100000 in
set_option maxHeartbeats 4000000 in
theorem cacat_any (l : List Sec) (A : Option Addr) (cap : Nat) (w : World) (h : SecSl w A l) : Calls Tryz.prog 25 #[.slice A l.length cap] w (RetW (.bool (vCat l)) w) := by
  have hlen : l.length ≤ 9223372036854775807 := by have := h.1.1; unfold maxLen at this; omega
  have H := hide h
  have RN := hide (fun k (hk : k < l.length) W (hb : Below w.heap.size w W) => cavalid_any l[k] W ((h.below hb).1.2 k hk).1 ((h.below hb).1.2 k hk).2.1 ((h.below hb).1.2 k hk).2.2)
  unfold RetW at RN
  have VB1 := hide (fun h => vCat_many (sl := l) h)
  have VB2 := hide (fun k hk h => vCat_bad (sl := l) (k := k) hk h)
  have VAL := hide (fun h1 h2 => vCat_all (sl := l) h1 h2)
  have KYA := hide (fun k (hk : k < l.length) => Go.WideMaps.keyOf_string_mk (P := Tryz.prog) Tryz.underlying9 (s := l[k].nm) (h.1.2 k hk).1)
  clear h
  generalize vCat l = v at *
  by_cases k1 : 40 < l.length
  · have g0 : decide (40 < (l.length : Int)) = true := decide_eq_true (by omega)
    have g1 : decide (40 < l.length) = true := decide_eq_true (by omega)
    have E := hide (VB1.out k1)
    go_enter Tryz.func25, Tryz.ntmps25
    go_wp2
    go_ret
    exact ⟨ret_bool E.out.symm, Below.refl _ _⟩
  have g0 : decide (40 < (l.length : Int)) = false := decide_eq_false (by omega)
  have g1 : decide (40 < l.length) = false := decide_eq_false (by omega)
  have hmm := @run_makeMap Tryz.prog
  have X2 := hide ((Own.start w).to ((Below.refl _ _).alloc (Nat.le_refl _) (.map #[] 0)))
  have M0 : Hid (MapB (w.alloc (.map #[] 0)) 9 w.heap.size 0 (.map [])) := hide (World.ownsMap_made (H := Unit) w _ _ _)
  go_enter Tryz.func25, Tryz.ntmps25
  go_wp2
  go_loopw [12] (fun v wr => ∃ (k : Nat) (D : DataW Unit), k ≤ l.length ∧ v = .int .i64 (k : Int) ∧ Hid (Own w wr []) ∧ Hid (MapB wr 9 w.heap.size k D) ∧ Hid (Says D (kyC l k)) ∧ Hid (∀ i, i < k → secOk l i = true)) (fun v _ => l.length - (intOf v).toNat)
  case atStart => exact ⟨0, _, by omega, rfl, X2, M0, hide (by rw [kyC_zero]; exact Says.empty), hide (fun _ h => by omega)⟩
  case round =>
    clear g0 g1 hmm X2 M0
    obtain ⟨k, D, hk, rfl, HW, HM, HD, HO⟩ := hrel
    by_cases hlt : k < l.length
    · obtain ⟨b, off, rfl, hbl, hat⟩ := (H.out.below HW.out.1).2 (by omega)
      obtain ⟨c0, c1, c2, c3, c4⟩ := hat k hlt
      have NO := hide (fun hh => VB2.out k hlt (secOk_no hlt hh))
      have OK := hide (fun (h1 : secB l[k] = true) (h2 : seIx l l[k].nm = (k : Int)) i (hik : i < k + 1) => (show secOk l i = true by
        by_cases e : i = k
        · subst e; exact secOk_yes hlt h1 h2
        · exact HO.out i (by omega)))
      have RNk := hide (fun W hb => RN.out k hlt W hb)
      have KX := hide (kyC_ix hlt)
      have KY := hide (KYA.out k hlt)
      have SY := HD.out.put (k := .string l[k].nm.data.toList) (str_keyed.key KY.out)
      rw [kyC_succ hlt] at SY
      replace SY := hide SY
      have d1 : decide (k < l.length) = true := decide_eq_true hlt
      have d2 : (0 : Int) ≤ (k : Int) := by omega
      have d3 : (k : Int) < (l.length : Int) := by omega
      clear hat RN KYA VB1 VB2 VAL HO
      generalize l[k] = x at *
      have XN := hide (HW.out.alloc #[.string x.nm, .int .i64 x.he, .int .i64 x.pr, .slice x.ar.A x.ar.l.length x.ar.c, .slice x.cv.A x.cv.l.length x.cv.c] 53)
      have MN := hide (HM.out.to ((Below.refl _ _).alloc (Nat.le_refl _) (.cells #[.string x.nm, .int .i64 x.he, .int .i64 x.pr, .slice x.ar.A x.ar.l.length x.ar.c, .slice x.cv.A x.cv.l.length x.cv.c] 53)))
      have hr2 := XN.out.r1
      generalize secB x = c at *
      cases c with
      | false =>
        have E := hide (NO.out (.inl rfl))
        clear NO OK
        go_wp2_with fail
        refine (RNk.out _ XN.out.1).mono ?_
        rintro e w2 ⟨rfl, hb⟩
        replace XN := hide (XN.out.to hb)
        clear hb hr2
        go_wp2
        go_ret
        exact ⟨ret_bool E.out.symm, XN.out.1⟩
      | true =>
        go_wp2_with fail
        refine (RNk.out _ XN.out.1).mono ?_
        rintro e w2 ⟨rfl, hb⟩
        replace XN := hide (XN.out.to hb)
        replace MN := hide (MN.out.to hb)
        clear hb hr2
        have hr2 := XN.out.r1
        obtain ⟨c, hlk, hc⟩ := MN.out.says str_keyed Tryz.underlying103 HD.out KY.out
        cases c with
        | true =>
          have E := hide (NO.out (.inr (KX.out.1 (hc.1 rfl))))
          clear NO OK hc
          go_wp2
          go_ret
          exact ⟨ret_bool E.out.symm, XN.out.1⟩
        | false =>
          have E := hide (OK.out (by trivial) (Classical.byContradiction fun q => by have := hc.2 (KX.out.2 q); cases this))
          clear NO OK hc
          have hn : k < maxLen := by unfold maxLen; omega
          go_upto_region 9 with (fail)
          have HG := hide (fun w6 (hM6 : MapB w6 9 w.heap.size (k + 1) (D.put (.string x.nm.data.toList) (.lit (.bool true)))) (hg6 : w2.grownBy w6 (some w.heap.size)) => And.intro (XN.out.tail.gmap MN.out (Nat.le_refl _) hg6) hM6)
          go_wp2_with (at_mapUpdate; refine wpList_mapUpdate_own w2 rfl _ _ _ 103 rfl 9 4 str_keyed Tryz.underlying103 (plainElem (H := Unit) Tryz.prog 4) w.heap.size k D rfl MN.out hn (.string x.nm) (.bool true) (.string x.nm.data.toList) rfl rfl KY.out (.lit (.bool true)) [] (Go.plainElem_bool Tryz.underlying4 true) ?_; intro w6 hM6 hg6)
          have HG6 := hide (HG.out w6 hM6 hg6)
          clear HG hM6 hg6 hr2 hlk
          go_roundw
          case rel => exact ⟨k + 1, _, by omega, by go_num, hide HG6.out.1, hide HG6.out.2, SY, E⟩
          case measure => simp [intOf]; omega
    · have d1 : decide (k < l.length) = false := decide_eq_false hlt
      have E := hide (VAL.out (by omega) (fun i hi => HO.out i (by omega)))
      go_wp2
      go_ret
      exact ⟨ret_bool E.out.symm, HW.out.1⟩
set_option maxHeartbeats 1000000 in
theorem cafind1_any (d : Sec) (s : ByteArray) (b : Nat) (w : World) (hb : Blk w b 9 #[.string s]) : Calls Tryz.prog 55 #[d.val, .pointer (some ⟨b, 0, none⟩)] w (RetW (.bool (d.nm.toList == s.toList)) w) := by
  have X := (show Own w w [(b, 9, #[.string s])] from ⟨Below.refl _ _, fun x hx => by rw [List.mem_singleton.1 hx]; exact hb⟩).alloc #[.string d.nm, .int .i64 d.he, .int .i64 d.pr, .slice d.ar.A d.ar.l.length d.ar.c, .slice d.cv.A d.cv.l.length d.cv.c] 53
  have n0 := hb.lt
  have n1 : ¬ b = w.heap.size := by omega
  have hr := X.r2
  have XB := hide X.1
  clear X hb
  generalize hq : (d.nm.toList == s.toList) = q
  go_enter Tryz.func55, Tryz.ntmps55
  go_wp2
  go_ret
  exact ⟨rfl, XB.out⟩
/-- a place and an error -/
def FindPost (i e0 : Int) (w : World) (e : Ending) (w' : World) : Prop := e = .returned (.tuple #[.int .i64 i, .int .i64 e0]) ∧ Below w.heap.size w w'
set_option maxHeartbeats 2000000 in
theorem cafind_any (l : List Sec) (A : Option Addr) (cap : Nat) (s : ByteArray) (w : World) (h : SecSl w A l) (hv : vCat l = true) : Calls Tryz.prog 26 #[.slice A l.length cap, .string s] w (FindPost (if seIx l s < 0 then 0 else seIx l s) (if seIx l s < 0 then 9 else 0) w) := by
  have V := cacat_any l A cap (w.alloc (.cells #[.string s] 9)) (h.below ((Below.refl _ _).alloc (Nat.le_refl _) _))
  rw [hv] at V
  have X := (Own.start w).alloc #[.string s] 9
  have hr := X.r1
  have XB := hide X
  have IX := hide (fun W (hb : Below (w.alloc (.cells #[.string s] 9)).heap.size (w.alloc (.cells #[.string s] 9)) W) => ixSex_any 55 (.pointer (some ⟨w.heap.size, 0, none⟩)) (fun x => x.nm.toList == s.toList) l A cap W (fun d W2 hb2 _ => cafind1_any d s w.heap.size W2 (((X.2 (w.heap.size, 9, #[.string s]) (List.mem_cons_self ..)).below hb (by simp)).below hb2 (Nat.lt_of_lt_of_le (by simp) hb.size))) (fun d w => enters_of Tryz.func55 (by kernel_rfl) rfl _ w) ((h.below X.1).below hb))
  have RG := ixB_range (fun x : Sec => x.nm.toList == s.toList) l
  unfold RetW at IX V
  clear X h hv
  show Calls Tryz.prog _ _ w (FindPost (if ixB (fun x => x.nm.toList == s.toList) l < 0 then 0 else ixB (fun x => x.nm.toList == s.toList) l) (if ixB (fun x => x.nm.toList == s.toList) l < 0 then 9 else 0) w)
  generalize ixB (fun x => x.nm.toList == s.toList) l = i at *
  replace V := hide V
  rcases RG with rfl | ⟨j, rfl, hj⟩
  · go_enter Tryz.func26, Tryz.ntmps26
    go_wp2_with fail
    refine V.out.mono ?_
    rintro e w' ⟨rfl, hb⟩
    have HB := hide hb
    replace XB := hide (XB.out.to hb)
    clear hb
    go_wp2_with fail
    refine (IX.out _ HB.out).mono ?_
    rintro e w' ⟨rfl, hb⟩
    replace XB := hide (XB.out.to hb)
    clear hb
    go_wp2
    go_ret2
    exact ⟨rfl, XB.out.1⟩
  · have dj : decide (0 ≤ (j : Int)) = true := decide_eq_true (by omega)
    have dn : ¬ ((j : Int) < 0) := by omega
    rw [if_neg dn, if_neg dn]
    clear dn
    go_enter Tryz.func26, Tryz.ntmps26
    go_wp2_with fail
    refine V.out.mono ?_
    rintro e w' ⟨rfl, hb⟩
    have HB := hide hb
    replace XB := hide (XB.out.to hb)
    clear hb
    go_wp2_with fail
    refine (IX.out _ HB.out).mono ?_
    rintro e w' ⟨rfl, hb⟩
    replace XB := hide (XB.out.to hb)
    clear hb
    go_wp2
    go_ret2
    exact ⟨rfl, XB.out.1⟩
end Go.Proofs.YtdcdfjinbieblaaGreatDoor

namespace Go.Proofs.YtdcdfjinbieblaaGreatDoor
open Go Go.RowKit

set_option maxRecDepth 100000 in
set_option maxHeartbeats 2000000 in
theorem copipes_no (nl : List Nod) (A : Option Addr) (cA : Nat) (ll : List Lnk) (B : Option Addr) (cB : Nat) (sl : List Sec) (C : Option Addr) (cC : Nat) (w : World) (h : NodSl w A nl ∧ LnkSl w B ll) (hs : SecSl w C sl) (hv : (vNet nl ll && vCat sl) = false) : Calls Tryz.prog 7 #[.agg #[.slice A nl.length cA, .slice B ll.length cB], .slice C sl.length cC] w (BilPost (piL nl ll sl) (piE nl ll sl) w) := by
  have N1 := hide (fun W (hb : Below w.heap.size w W) => nwvalid_any ⟨nl, A, cA, ll, B, cB⟩ W ⟨h.1.below hb, h.2.below hb⟩)
  have N2 := hide (fun W (hb : Below w.heap.size w W) => cacat_any sl C cC W (hs.below hb))
  unfold RetW at N1 N2
  obtain ⟨e1, e2⟩ := pi_no hv
  rw [e1, e2]
  have X := (Own.start w).alloc #[.slice A nl.length cA, .slice B ll.length cB] 25
  have hr := X.r1
  have XB := hide X
  clear X h hs e1 e2
  cases h1 : vNet nl ll with
  | false =>
    rw [h1] at N1
    clear h1 hv
    go_enter Tryz.func7, Tryz.ntmps7
    go_wp2_with fail
    refine (N1.out _ XB.out.1).mono ?_
    rintro e w1 ⟨rfl, hb⟩
    replace XB := hide (XB.out.to hb)
    clear hb
    go_wp2
    go_ret2
    exact ⟨XB.out.1, none, 0, rfl, ItmSl.nil _ _⟩
  | true =>
    rw [h1] at N1
    have h2 : vCat sl = false := by rw [h1] at hv; simpa using hv
    rw [h2] at N2
    clear h1 h2 hv
    go_enter Tryz.func7, Tryz.ntmps7
    go_wp2_with fail
    refine (N1.out _ XB.out.1).mono ?_
    rintro e w1 ⟨rfl, hb⟩
    replace XB := hide (XB.out.to hb)
    clear hb
    go_wp2_with fail
    refine (N2.out _ XB.out.1).mono ?_
    rintro e w2 ⟨rfl, hb⟩
    replace XB := hide (XB.out.to hb)
    clear hb
    go_wp2
    go_ret2
    exact ⟨XB.out.1, none, 0, rfl, ItmSl.nil _ _⟩
set_option maxRecDepth 100000 in
set_option maxHeartbeats 8000000 in
theorem copipes_ok (nl : List Nod) (A : Option Addr) (cA : Nat) (ll : List Lnk) (B : Option Addr) (cB : Nat) (sl : List Sec) (C : Option Addr) (cC : Nat) (w : World) (h : NodSl w A nl ∧ LnkSl w B ll) (hs : SecSl w C sl) (hv : (vNet nl ll && vCat sl) = true) : Calls Tryz.prog 7 #[.agg #[.slice A nl.length cA, .slice B ll.length cB], .slice C sl.length cC] w (BilPost (piL nl ll sl) (piE nl ll sl) w) := by
  have N1 := hide (fun W (hb : Below w.heap.size w W) => nwvalid_any ⟨nl, A, cA, ll, B, cB⟩ W ⟨h.1.below hb, h.2.below hb⟩)
  have N2 := hide (fun W (hb : Below w.heap.size w W) => cacat_any sl C cC W (hs.below hb))
  unfold RetW at N1 N2
  obtain ⟨hv1, hv2⟩ : vNet nl ll = true ∧ vCat sl = true := by simpa using hv
  rw [hv1] at N1
  rw [hv2] at N2
  have LB := hide (fun k i => lenA_bound (sl := sl) hv1 k i)
  have LKK := hide (fun m (hm : m < ll.length) hk => lnk_le (lnkOk_at hv1 hm).1 hk)
  have hll : ll.length ≤ 400 := by
    have q := hv1
    unfold vNet at q
    simp only [Bool.and_eq_true, decide_eq_true_eq] at q
    exact q.1.2
  have hsl : sl.length ≤ 40 := by
    have q := hv2
    unfold vCat at q
    simp only [Bool.and_eq_true, decide_eq_true_eq] at q
    exact q.1
  have PBAD := hide (fun (h2 : pipOK sl ll = false) => pi_bad hv h2)
  have PYES := hide (fun (h2 : pipOK sl ll = true) => pi_yes hv h2)
  have HL := hide h.2
  have HS := hide hs
  have MK := make_ints sl.length (by omega)
  have PNM := hide (fun n => pipN_nm (sl := sl) (f := lenA sl ll) (fun i hi => (hs.1.2 i hi).1) n)
  have X := (Own.start w).alloc #[.slice A nl.length cA, .slice B ll.length cB] 25
  have hr := X.r1
  have XB := hide X
  have FD := hide (fun s W (hb : Below w.heap.size w W) => cafind_any sl C cC s W (hs.below hb) hv2)
  unfold FindPost at FD
  clear X h hs hv hv1 hv2
  generalize piE nl ll sl = E at *
  generalize piL nl ll sl = PL at *
  go_enter Tryz.func7, Tryz.ntmps7
  go_wp2_with fail
  refine (N1.out _ XB.out.1).mono ?_
  rintro e w1 ⟨rfl, hb⟩
  replace XB := hide (XB.out.to hb)
  clear hb hr
  have hr := XB.out.r1
  go_wp2_with fail
  refine (N2.out _ XB.out.1).mono ?_
  rintro e w2 ⟨rfl, hb⟩
  replace XB := hide (XB.out.to hb)
  clear hb hr N1 N2
  have bw : w.heap.size < w2.heap.size := XB.out.r1.2.2
  have XR := hide (XB.out.alloc (mkRow sl.length (fun _ => .int .i64 0)) 3)
  have hr := XR.out.r2
  have hlen1 : ll.length ≤ 9223372036854775807 := by omega
  have hlen2 : sl.length ≤ 9223372036854775807 := by omega
  go_wp2
  have XR2 : Hid (Own w (w2.alloc (.cells (mkRow sl.length (fun _ => .int .i64 0)) 3)) [(w2.heap.size, 3, mkRow sl.length (lenV sl ll 0)), (w.heap.size, 25, #[.slice A nl.length cA, .slice B ll.length cB])]) := hide (by rw [lenV_zero]; exact XR.out)
  clear hr XR XB MK
  generalize hW : w2.alloc (.cells (mkRow sl.length (fun _ => .int .i64 0)) 3) = W0 at *
  clear hW
  generalize w2.heap.size = bL at *
  go_loopw [28] (fun v wr => ∃ k : Nat, k ≤ ll.length ∧ v = .int .i64 (k : Int) ∧ Hid (Own w wr [(bL, 3, mkRow sl.length (lenV sl ll k)), (w.heap.size, 25, #[.slice A nl.length cA, .slice B ll.length cB])]) ∧ Hid (∀ i (hi : i < ll.length), i < k → ll[i].kd = 1 → 0 ≤ seIx sl ll[i].se)) (fun v _ => ll.length - (intOf v).toNat)
  case atStart => exact ⟨0, by omega, rfl, XR2, hide (fun _ _ h => by omega)⟩
  case round =>
    clear XR2
    obtain ⟨k, hk, rfl, HW, HO⟩ := hrel
    by_cases hlt : k < ll.length
    · have d1 : decide (k < ll.length) = true := decide_eq_true hlt
      have d2 : (0 : Int) ≤ (k : Int) := by omega
      have d3 : (k : Int) < (ll.length : Int) := by omega
      obtain ⟨b, off, rfl, hbl, hat⟩ := (HL.out.below HW.out.1).2 (by omega)
      obtain ⟨c0, c1, c2, c3, c4, c5, c6, c7, c8, c9, ca⟩ := hat k hlt
      have SK := hide (fun (hh : ¬ ll[k].kd = 1) => lenV_skip (sl := sl) hlt hh)
      have PUT := hide (fun j (hh : ll[k].kd = 1) (hj : seIx sl ll[k].se = ((j : Nat) : Int)) => lenV_put (sl := sl) (n := sl.length) hlt hh hj)
      have OK := hide (fun (hh : ll[k].kd = 1 → 0 ≤ seIx sl ll[k].se) i (hi : i < ll.length) (hik : i < k + 1) => (show ll[i].kd = 1 → 0 ≤ seIx sl ll[i].se by
        by_cases e : i = k
        · subst e; exact hh
        · exact HO.out i hi (by omega)))
      have BAD := hide (fun (hh : ll[k].kd = 1) (h2 : seIx sl ll[k].se = -1) => PBAD.out (pipOK_bad hlt hh (by rw [h2]; decide)))
      have RG := hide (seIx_two sl ll[k].se)
      have LBk := hide (LB.out k)
      have LKk := hide (LKK.out k hlt)
      have FDk := hide (fun W hb => FD.out ll[k].se W hb)
      clear hat HO PBAD LB LKK FD PNM
      generalize ll[k] = x at *
      have bw2 : bL < wr.heap.size := HW.out.r2.1.2.2
      have XN := hide (HW.out.alloc #[.string x.nm, .string x.fr, .string x.tn, .int .i64 x.kd, .int .i64 x.le, .int .i64 x.up, .int .i64 x.dn, .string x.se, .int .i64 x.wi, .int .i64 x.he, .slice x.cu.A x.cu.l.length x.cu.c] 50)
      have hr := XN.out.r3
      have n1 : ¬ (wr.heap.size = bL) := by omega
      have n2 : ¬ (w.heap.size = bL) := by omega
      by_cases hkd : x.kd = 1
      · have q1 : (x.kd != 1) = false := by simpa using hkd
        obtain ⟨lk1, lk2⟩ := LKk.out hkd
        replace hkd := hide hkd
        rcases RG.out with hj | ⟨j, hj, hjl⟩
        · rw [hj, if_pos (by decide), if_pos (by decide)] at FDk
          obtain ⟨e1, e2⟩ := BAD.out hkd.out hj
          rw [e1, e2]
          clear SK PUT OK BAD RG LBk LKk hj e1 e2
          go_wp2_with fail
          refine (FDk.out _ XN.out.1).mono ?_
          rintro e w3 ⟨rfl, hb⟩
          replace XN := hide (XN.out.to hb)
          clear hb hr
          have hr := XN.out.r3
          clear FDk
          go_wp2
          go_ret2
          exact ⟨XN.out.1, none, 0, rfl, ItmSl.nil _ _⟩
        · have dn : ¬ ((j : Int) < 0) := by omega
          rw [hj, if_neg dn, if_neg dn] at FDk
          clear dn
          go_wp2_with fail
          refine (FDk.out _ XN.out.1).mono ?_
          rintro e w3 ⟨rfl, hb⟩
          replace XN := hide (XN.out.to hb)
          clear hb hr
          have hr := XN.out.r3
          have HROW := hide (PUT.out j hkd.out hj)
          have OKj := hide (OK.out (fun _ => by rw [hj]; omega))
          have fk : (mkRow sl.length (lenV sl ll k))[j]? = some (.int .i64 (lenA sl (ll.take k) j)) := mkRow_at _ _ hjl
          have lb := LBk.out j
          have j1 : (0 : Int) ≤ (j : Int) := by omega
          have j2 : (j : Int) < (sl.length : Int) := by omega
          clear SK PUT OK BAD RG LBk LKk FDk hj
          generalize lenA sl (ll.take k) j = a at *
          have q3 : IntKind.i64.wrap (a + x.le) = a + x.le := IntWalk.i64_in _ (by omega)
          clear lb lk1 lk2
          generalize mkRow sl.length (lenV sl ll k) = R0 at *
          generalize wr.heap.size = bx at *
          have NE : Nonempty (OwnW w [(bx, 50, #[.string x.nm, .string x.fr, .string x.tn, .int .i64 x.kd, .int .i64 x.le, .int .i64 x.up, .int .i64 x.dn, .string x.se, .int .i64 x.wi, .int .i64 x.he, .slice x.cu.A x.cu.l.length x.cu.c]), (bL, 3, R0), (w.heap.size, 25, #[.slice A nl.length cA, .slice (some ⟨b, off, none⟩) ll.length cB])]) := ⟨⟨_, XN.out⟩⟩
          have C1 := fun z : OwnW w [(bx, 50, #[.string x.nm, .string x.fr, .string x.tn, .int .i64 x.kd, .int .i64 x.le, .int .i64 x.up, .int .i64 x.dn, .string x.se, .int .i64 x.wi, .int .i64 x.he, .slice x.cu.A x.cu.l.length x.cu.c]), (bL, 3, R0), (w.heap.size, 25, #[.slice A nl.length cA, .slice (some ⟨b, off, none⟩) ll.length cB])] => z.own.r3
          go_upto_region 11 with (fail)
          refine wp_region_own_tail (w := w) (L := [(bx, 50, #[.string x.nm, .string x.fr, .string x.tn, .int .i64 x.kd, .int .i64 x.le, .int .i64 x.up, .int .i64 x.dn, .string x.se, .int .i64 x.wi, .int .i64 x.he, .slice x.cu.A x.cu.l.length x.cu.c]), (bL, 3, R0), (w.heap.size, 25, #[.slice A nl.length cA, .slice (some ⟨b, off, none⟩) ll.length cB])]) 8 (by kernel_rfl) (by kernel_rfl) XN.out ?_
          simp only [List.take_succ_cons, List.take_zero, List.drop_succ_cons, List.drop_zero]
          repeat (go_big_quiet_step (fail))
          refine wpQuiet_nil ?_
          rintro W3 ⟨⟨W3, HX⟩, rfl⟩
          have hr3 := HX.r3
          have HY : Hid (Own w (W3.setCell ⟨bL, j, none⟩ (.int .i64 (a + x.le))) [(bL, 3, mkRow sl.length (lenV sl ll (k + 1))), (w.heap.size, 25, #[.slice A nl.length cA, .slice (some ⟨b, off, none⟩) ll.length cB])]) := hide (by
            rw [← HROW.out]
            exact (HX.swap.set0 (by omega) (by simp; omega) j _).swap.tail)
          clear HX NE C1 HROW hr XN
          go_wp2
          go_roundw
          case rel => exact ⟨k + 1, by omega, by go_num, HY, OKj⟩
          case measure => simp [intOf]; omega
      · have q1 : (x.kd != 1) = true := by simpa using hkd
        have q2 : (x.kd == 1) = false := by simpa using hkd
        have e := SK.out hkd
        have OKk := hide (OK.out (fun hh => absurd hh hkd))
        clear SK PUT OK BAD RG LBk LKk FDk
        go_wp2
        go_roundw
        case rel => exact ⟨k + 1, by omega, by go_num, hide (by rw [e]; exact XN.out.tail), OKk⟩
        case measure => simp [intOf]; omega
    · obtain rfl : k = ll.length := by omega
      have d1 : decide (ll.length < ll.length) = false := decide_eq_false hlt
      obtain ⟨rfl, rfl⟩ := PYES.out (pipOK_all fun i hi => HO.out i hi hi)
      have LBE : Hid (∀ i, 0 ≤ lenA sl ll i ∧ lenA sl ll i ≤ 6710886400) := hide (fun i => by
        have := LB.out ll.length i
        rwa [List.take_length] at this)
      rw [lenV_end] at HW
      clear HO PBAD PYES LB LKK FD
      generalize lenA sl ll = f at *
      go_wp2
      obtain ⟨wa, rfl⟩ : ∃ z, z = wr := ⟨_, rfl⟩
      obtain ⟨i0, hi0, hz0, hz1, hz2⟩ := info_parts itm_info
      have XH := hide (And.intro HW.out (World.ownsRow_nil wa w.heap.size 43 3))
      clear HW d1
      go_loopw [11, 56] (fun v11 v56 wr => ∃ k : Nat, k ≤ sl.length ∧ v56 = .int .i64 (k : Int) ∧ Hid (Own w wr [(bL, 3, mkRow sl.length (fun i => .int .i64 (f i))), (w.heap.size, 25, #[.slice A nl.length cA, .slice B ll.length cB])] ∧ wr.ownsRow w.heap.size 43 3 v11 (pipN sl f k).length (flatItm (pipN sl f k)))) (fun _ v _ => sl.length - (intOf v).toNat)
      case atStart => exact ⟨0, by omega, rfl, XH⟩
      case round =>
        clear XH
        obtain ⟨k, hk, rfl, HY⟩ := hrel
        by_cases hlt : k < sl.length
        · have d1 : decide (k < sl.length) = true := decide_eq_true hlt
          have d2 : (0 : Int) ≤ (k : Int) := by omega
          have d3 : (k : Int) < (sl.length : Int) := by omega
          obtain ⟨b, off, rfl, hbl, hat⟩ := (HS.out.below HY.out.1.1).2 (by omega)
          obtain ⟨c0, c1, c2, c3, c4⟩ := hat k hlt
          have PY := hide (fun (hh : 0 < f k) => pipN_yes (f := f) hlt hh)
          have PN := hide (fun (hh : ¬ 0 < f k) => pipN_no (f := f) hlt hh)
          have LEN := pipN_len sl f k
          have fk : (mkRow sl.length (fun i => Value.int .i64 (f i)))[k]? = some (.int .i64 (f k)) := mkRow_at _ _ hlt
          have lb := LBE.out k
          clear hat
          generalize sl[k] = s at *
          generalize f k = fv at *
          obtain ⟨R0, hR⟩ : ∃ R0, R0 = mkRow sl.length (fun i => Value.int .i64 (f i)) := ⟨_, rfl⟩
          obtain ⟨P, hP⟩ : ∃ P, P = pipN sl f k := ⟨_, rfl⟩
          rw [← hR] at HY fk
          rw [← hP] at HY PY PN LEN
          replace hR := hide hR
          clear hP
          have hr := HY.out.1.r2
          have bw2 : bL < wr.heap.size := hr.1.2.2
          have XN := hide (HY.out.1.alloc #[.string s.nm, .int .i64 s.he, .int .i64 s.pr, .slice s.ar.A s.ar.l.length s.ar.c, .slice s.cv.A s.cv.l.length s.cv.c] 53)
          have RN := hide (HY.out.2.alloc (.cells #[.string s.nm, .int .i64 s.he, .int .i64 s.pr, .slice s.ar.A s.ar.l.length s.ar.c, .slice s.cv.A s.cv.l.length s.cv.c] 53))
          clear hr
          have hr := XN.out.r3
          have n1 : ¬ (wr.heap.size = bL) := by omega
          have n2 : ¬ (w.heap.size = bL) := by omega
          by_cases hf : 0 < fv
          · have q1 : decide (0 < fv) = true := decide_eq_true hf
            have EN := hide (PY.out hf)
            obtain ⟨sm, hsm⟩ : ∃ sm, sm = fv + 999 := ⟨_, rfl⟩
            have q2 : IntKind.i64.wrap (fv + 999) = sm := (IntWalk.i64_in _ (by omega)).trans hsm.symm
            have q2' : wrap64 (fv + 999) = sm := (IntWalk.wrap64_in _ (by omega)).trans hsm.symm
            have q3 : IntKind.i64.wrap (sm.tdiv 1000) = sm / 1000 := by
              rw [Int.tdiv_eq_ediv_of_nonneg (by omega)]
              exact IntWalk.i64_in _ (by omega)
            rw [← hsm] at EN
            clear hsm
            have f1 : P.length + 1 ≤ maxLen := by unfold maxLen; omega
            have f2 : (P.length + 1) * 32 ≤ 140737488355328 := by omega
            clear PY PN lb hf
            generalize sm / 1000 = am at *
            go_upto_region 18 with (fail)
            generalize hW : wr.alloc (.cells #[.string s.nm, .int .i64 s.he, .int .i64 s.pr, .slice s.ar.A s.ar.l.length s.ar.c, .slice s.cv.A s.cv.l.length s.cv.c] 53) = W1 at *
            clear hW
            generalize wr.heap.size = bx at *
            have CX : Hid (∀ W, Own w W [(bx, 53, #[.string s.nm, .int .i64 s.he, .int .i64 s.pr, .slice s.ar.A s.ar.l.length s.ar.c, .slice s.cv.A s.cv.l.length s.cv.c]), (bL, 3, R0), (w.heap.size, 25, #[.slice A nl.length cA, .slice B ll.length cB])] → W.cell? ⟨bx, 0, none⟩ = some (.string s.nm) ∧ W.cell? ⟨bx, 2, none⟩ = some (.int .i64 s.pr) ∧ W.cell? ⟨bL, k, none⟩ = some (.int .i64 fv)) := hide (fun W hW => ⟨hW.r3.1.1 0, hW.r3.1.1 2, (hW.r3.2.1.1 k).trans fk⟩)
            obtain ⟨c0', c2', ck'⟩ := CX.out _ XN.out
            have m0 : ¬ W1.heap.size = bx := by have := hr.1.2.2; omega
            have m1 : ¬ W1.heap.size = bL := by have := hr.2.1.2.2; omega
            have m2 : bx < W1.heap.size := hr.1.2.2
            have m3 : bL < W1.heap.size := hr.2.1.2.2
            have RO := hide ((row_drew RN.out).alloc (.cells #[.string s.nm, .int .i64 am, .int .i64 s.pr] 43))
            have RD : Hid (Reads (W1.drew.alloc (.cells #[.string s.nm, .int .i64 am, .int .i64 s.pr] 43)) (W1.heap.size + 1) 3 (some ⟨W1.heap.size, 0, none⟩) 1 [.string s.nm, .int .i64 am, .int .i64 s.pr]) := hide ⟨rfl, fun _ => ⟨_, rfl, Nat.lt_succ_self _, World.news_of_block (cs := #[.string s.nm, .int .i64 am, .int .i64 s.pr]) (t := 43) (fr := (0, 0)) (heap_alloc_new W1.drew _)⟩⟩
            have f4 : ∀ y ∈ [Value.string s.nm, .int .i64 am, .int .i64 s.pr], y.oneCell' = true := by simp [Value.oneCell']
            have X4 := hide ((XN.out.drew.alloc #[.string s.nm, .int .i64 am, .int .i64 s.pr] 43).tail)
            have f3 : w.heap.size ≤ (W1.drew.alloc (.cells #[.string s.nm, .int .i64 am, .int .i64 s.pr] 43)).heap.size := X4.out.1.size
            have TY : Hid (∀ y ∈ [(bx, 53, #[.string s.nm, .int .i64 s.he, .int .i64 s.pr, .slice s.ar.A s.ar.l.length s.ar.c, .slice s.cv.A s.cv.l.length s.cv.c]), (bL, 3, R0), (w.heap.size, 25, #[.slice A nl.length cA, .slice B ll.length cB])], (43 : TypeId) ≠ (y : Nat × TypeId × Array Value).2.1) := hide (by
              intro y hy
              simp only [List.mem_cons, List.not_mem_nil, or_false] at hy
              rcases hy with rfl | rfl | rfl
              · exact (show (43 : Nat) ≠ 53 by decide)
              · exact (show (43 : Nat) ≠ 3 by decide)
              · exact (show (43 : Nat) ≠ 25 by decide))
            have GR := hide (fun (w4 : World) (v4 : Value) (hown4 : w4.ownsRow w.heap.size 43 3 v4 (P.length + 1) (flatItm P ++ [.string s.nm, .int .i64 am, .int .i64 s.pr])) (hg : (W1.drew.alloc (.cells #[.string s.nm, .int .i64 am, .int .i64 s.pr] 43)).grownBy w4 u11.ownBlock) => And.intro (Own.grown X4.out RO.out hg TY.out) hown4)
            have EL : Hid ((P ++ ([⟨s.nm, am, s.pr⟩] : List Itm)).length = P.length + 1) := hide (by simp)
            clear hr XN RN X4 TY
            go_region_held3 (fun w' => w'.cell? ⟨bx, 0, none⟩ = some (.string s.nm) ∧ w'.cell? ⟨bx, 2, none⟩ = some (.int .i64 s.pr) ∧ w'.cell? ⟨bL, k, none⟩ = some (.int .i64 fv)) (go_keep)
              (first
                | (refine step_append_any (w := W1.drew.alloc (.cells #[.string s.nm, .int .i64 am, .int .i64 s.pr] 43)) (by rfl) _ _ _ (by rfl) w.heap.size 43 i0 _ 3 32 Tryz.underlying29 hi0 hz0 hz1 hz2 rfl (by omega) _ P.length (flatItm P) (by rfl) RO.out (W1.heap.size + 1) _ _ _ [.string s.nm, .int .i64 am, .int .i64 s.pr] (by rfl) RD.out f4 f1 f2 f3 ?_; intro v4 w4 hown4 hgrow hor; have HY := hide (GR.out _ _ hown4 hgrow); obtain ⟨d0, d1, d2⟩ := CX.out _ HY.out.1; clear hown4 hgrow hor))
            have HZ : Hid (Own w w4 [(bL, 3, R0), (w.heap.size, 25, #[.slice A nl.length cA, .slice B ll.length cB])] ∧ w4.ownsRow w.heap.size 43 3 v4 (pipN sl f (k + 1)).length (flatItm (pipN sl f (k + 1)))) := hide ⟨HY.out.1.tail, by rw [EN.out, flatItm_append, EL.out]; exact HY.out.2⟩
            clear HY d0 d1 d2 c0' c2' ck' EN
            go_wp2
            go_roundw
            case rel => exact ⟨k + 1, by omega, by go_num, by rw [← hR.out]; exact HZ⟩
            case measure => simp [intOf]; omega
          · have q1 : decide (0 < fv) = false := decide_eq_false hf
            have EN := PN.out hf
            clear PY PN lb
            go_wp2
            go_roundw
            case rel => exact ⟨k + 1, by omega, by go_num, hide (by rw [EN, ← hR.out]; exact ⟨XN.out.tail, RN.out⟩)⟩
            case measure => simp [intOf]; omega
        · obtain rfl : k = sl.length := by omega
          have d1 : decide (sl.length < sl.length) = false := decide_eq_false hlt
          have nm := PNM.out sl.length
          obtain ⟨A4, c4, e4, IS⟩ := ItmSl.of_row HY.out.2 (fun i hi => nm _ (List.getElem_mem hi))
          have e4 : _ = Value.slice A4 (pipN sl f sl.length).length c4 := e4
          subst e4
          have HP := hide (And.intro HY.out.1.1 IS)
          clear HY IS nm PNM
          go_wp2
          go_ret2
          exact ⟨HP.out.1, A4, c4, rfl, HP.out.2⟩
end Go.Proofs.YtdcdfjinbieblaaGreatDoor
