/- Parts of one proof, joined: The law's heavy: it returns some bool; nothing that was there is turned. (Printed by gen_hvy.py.). The bill of the pipes, plain: the lengths of each section's pipes; its items; how a loop over the links, and one over the sections, builds them. The lengths of the sections' pipes as a row of integers, plain: what a link leaves of it. Rows of items of the call's own; a row of integers that is made. When a network is valid, plain: one wrong node or link, and all right ones. Valid tables ascend; a pump's curve lies within its limits where its ends do. The reference's tables (sewershedref06): Number, Valid. -/
import Derived.Test.YtdcdfjinbieblaaGreatDoorPkCostsPipes16
import Derived.Test.YtdcdfjinbieblaaGreatDoorPkCostsPipes17
import Derived.Shelf.Abstract
import Derived.Test.YtdcdfjinbieblaaGreatDoorPkCostsPipes14
import Derived.Test.YtdcdfjinbieblaaGreatDoorPkCostsPipes8
import Derived.Test.YtdcdfjinbieblaaGreatDoorPkCostsPipes6
namespace Go.Proofs.YtdcdfjinbieblaaGreatDoor
open Go Go.RowKit

def SomeB (w : World) (e : Ending) (w' : World) : Prop := ∃ b : Bool, e = .returned (.bool b) ∧ Below w.heap.size w w'
def hvQ1 (d : Nod) : Bool := (decide (100 < d.nm.size) || decide (120 < d.sh.l.length))
set_option maxRecDepth 100000 in
set_option maxHeartbeats 2000000 in
theorem heavy1_any (d : Nod) (w : World) (h1 : d.nm.size ≤ maxLen) (h2 : d.sh.l.length ≤ maxLen) : Calls Tryz.prog 19 #[.agg #[.string d.nm, .int .i64 d.kd, .int .i64 d.x, .int .i64 d.y, .int .i64 d.iv, .int .i64 d.gr, .slice d.sh.A d.sh.l.length d.sh.c, .bool d.pro, .int .i64 d.re]] w (RetW (.bool (hvQ1 d)) w) := by
  have X := (Own.start w).alloc #[.string d.nm, .int .i64 d.kd, .int .i64 d.x, .int .i64 d.y, .int .i64 d.iv, .int .i64 d.gr, .slice d.sh.A d.sh.l.length d.sh.c, .bool d.pro, .int .i64 d.re] 71
  have hr := X.r1
  have XB := hide X.1
  clear X
  unfold maxLen at *
  have EV : Hid (hvQ1 d = (decide (100 < d.nm.size) || decide (120 < d.sh.l.length))) := hide rfl
  have z0 : d.nm.size ≤ 9223372036854775807 := by omega
  have z1 : d.sh.l.length ≤ 9223372036854775807 := by omega
  have g0 : decide ((100 : Int) < (d.nm.size : Int)) = decide (100 < d.nm.size) := by rw [Bool.eq_iff_iff]; simp only [decide_eq_true_eq]; omega
  have g1 : decide ((120 : Int) < (d.sh.l.length : Int)) = decide (120 < d.sh.l.length) := by rw [Bool.eq_iff_iff]; simp only [decide_eq_true_eq]; omega
  have ways : (decide (100 < d.nm.size) = true) ∨ (decide (100 < d.nm.size) = false) := by
    generalize decide (100 < d.nm.size) = p0
    generalize decide (120 < d.sh.l.length) = p1
    revert p0 p1
    decide
  clear h1 h2
  rcases ways with y0 | y0
  ·
    rw [y0] at g0
    go_enter Tryz.func19, Tryz.ntmps19
    go_wp2
    go_ret
    exact ⟨ret_bool (by rw [EV.out]; simp [y0]), XB.out⟩
  ·
    rw [y0] at g0
    go_enter Tryz.func19, Tryz.ntmps19
    go_wp2
    go_ret
    exact ⟨ret_bool (by rw [EV.out]; simp [y0]), XB.out⟩
def hvQ2 (d : Lnk) : Bool := ((((decide (100 < d.nm.size) || decide (100 < d.fr.size)) || decide (100 < d.tn.size)) || decide (100 < d.se.size)) || decide (120 < d.cu.l.length))
set_option maxRecDepth 100000 in
set_option maxHeartbeats 2000000 in
theorem heavy2_any (d : Lnk) (w : World) (h1 : d.nm.size ≤ maxLen) (h2 : d.fr.size ≤ maxLen) (h3 : d.tn.size ≤ maxLen) (h4 : d.se.size ≤ maxLen) (h5 : d.cu.l.length ≤ maxLen) : Calls Tryz.prog 21 #[.agg #[.string d.nm, .string d.fr, .string d.tn, .int .i64 d.kd, .int .i64 d.le, .int .i64 d.up, .int .i64 d.dn, .string d.se, .int .i64 d.wi, .int .i64 d.he, .slice d.cu.A d.cu.l.length d.cu.c]] w (RetW (.bool (hvQ2 d)) w) := by
  have X := (Own.start w).alloc #[.string d.nm, .string d.fr, .string d.tn, .int .i64 d.kd, .int .i64 d.le, .int .i64 d.up, .int .i64 d.dn, .string d.se, .int .i64 d.wi, .int .i64 d.he, .slice d.cu.A d.cu.l.length d.cu.c] 50
  have hr := X.r1
  have XB := hide X.1
  clear X
  unfold maxLen at *
  have EV : Hid (hvQ2 d = ((((decide (100 < d.nm.size) || decide (100 < d.fr.size)) || decide (100 < d.tn.size)) || decide (100 < d.se.size)) || decide (120 < d.cu.l.length))) := hide rfl
  have z0 : d.nm.size ≤ 9223372036854775807 := by omega
  have z1 : d.fr.size ≤ 9223372036854775807 := by omega
  have z2 : d.tn.size ≤ 9223372036854775807 := by omega
  have z3 : d.se.size ≤ 9223372036854775807 := by omega
  have z4 : d.cu.l.length ≤ 9223372036854775807 := by omega
  have g0 : decide ((100 : Int) < (d.nm.size : Int)) = decide (100 < d.nm.size) := by rw [Bool.eq_iff_iff]; simp only [decide_eq_true_eq]; omega
  have g1 : decide ((100 : Int) < (d.fr.size : Int)) = decide (100 < d.fr.size) := by rw [Bool.eq_iff_iff]; simp only [decide_eq_true_eq]; omega
  have g2 : decide ((100 : Int) < (d.tn.size : Int)) = decide (100 < d.tn.size) := by rw [Bool.eq_iff_iff]; simp only [decide_eq_true_eq]; omega
  have g3 : decide ((100 : Int) < (d.se.size : Int)) = decide (100 < d.se.size) := by rw [Bool.eq_iff_iff]; simp only [decide_eq_true_eq]; omega
  have g4 : decide ((120 : Int) < (d.cu.l.length : Int)) = decide (120 < d.cu.l.length) := by rw [Bool.eq_iff_iff]; simp only [decide_eq_true_eq]; omega
  have ways : (decide (100 < d.nm.size) = true) ∨ (decide (100 < d.nm.size) = false ∧ decide (100 < d.fr.size) = true) ∨ (decide (100 < d.nm.size) = false ∧ decide (100 < d.fr.size) = false ∧ decide (100 < d.tn.size) = true) ∨ (decide (100 < d.nm.size) = false ∧ decide (100 < d.fr.size) = false ∧ decide (100 < d.tn.size) = false ∧ decide (100 < d.se.size) = true) ∨ (decide (100 < d.nm.size) = false ∧ decide (100 < d.fr.size) = false ∧ decide (100 < d.tn.size) = false ∧ decide (100 < d.se.size) = false) := by
    generalize decide (100 < d.nm.size) = p0
    generalize decide (100 < d.fr.size) = p1
    generalize decide (100 < d.tn.size) = p2
    generalize decide (100 < d.se.size) = p3
    generalize decide (120 < d.cu.l.length) = p4
    revert p0 p1 p2 p3 p4
    decide
  clear h1 h2 h3 h4 h5
  rcases ways with y0 | ⟨y0, y1⟩ | ⟨y0, y1, y2⟩ | ⟨y0, y1, y2, y3⟩ | ⟨y0, y1, y2, y3⟩
  ·
    rw [y0] at g0
    go_enter Tryz.func21, Tryz.ntmps21
    go_wp2
    go_ret
    exact ⟨ret_bool (by rw [EV.out]; simp [y0]), XB.out⟩
  ·
    rw [y0] at g0
    rw [y1] at g1
    go_enter Tryz.func21, Tryz.ntmps21
    go_wp2
    go_ret
    exact ⟨ret_bool (by rw [EV.out]; simp [y0, y1]), XB.out⟩
  ·
    rw [y0] at g0
    rw [y1] at g1
    rw [y2] at g2
    go_enter Tryz.func21, Tryz.ntmps21
    go_wp2
    go_ret
    exact ⟨ret_bool (by rw [EV.out]; simp [y0, y1, y2]), XB.out⟩
  ·
    rw [y0] at g0
    rw [y1] at g1
    rw [y2] at g2
    rw [y3] at g3
    go_enter Tryz.func21, Tryz.ntmps21
    go_wp2
    go_ret
    exact ⟨ret_bool (by rw [EV.out]; simp [y0, y1, y2, y3]), XB.out⟩
  ·
    rw [y0] at g0
    rw [y1] at g1
    rw [y2] at g2
    rw [y3] at g3
    go_enter Tryz.func21, Tryz.ntmps21
    go_wp2
    go_ret
    exact ⟨ret_bool (by rw [EV.out]; simp [y0, y1, y2, y3]), XB.out⟩
def hvQ3 (d : Sec) : Bool := ((decide (100 < d.nm.size) || decide (120 < d.ar.l.length)) || decide (120 < d.cv.l.length))
set_option maxRecDepth 100000 in
set_option maxHeartbeats 2000000 in
theorem heavy3_any (d : Sec) (w : World) (h1 : d.nm.size ≤ maxLen) (h2 : d.ar.l.length ≤ maxLen) (h3 : d.cv.l.length ≤ maxLen) : Calls Tryz.prog 23 #[.agg #[.string d.nm, .int .i64 d.he, .int .i64 d.pr, .slice d.ar.A d.ar.l.length d.ar.c, .slice d.cv.A d.cv.l.length d.cv.c]] w (RetW (.bool (hvQ3 d)) w) := by
  have X := (Own.start w).alloc #[.string d.nm, .int .i64 d.he, .int .i64 d.pr, .slice d.ar.A d.ar.l.length d.ar.c, .slice d.cv.A d.cv.l.length d.cv.c] 53
  have hr := X.r1
  have XB := hide X.1
  clear X
  unfold maxLen at *
  have EV : Hid (hvQ3 d = ((decide (100 < d.nm.size) || decide (120 < d.ar.l.length)) || decide (120 < d.cv.l.length))) := hide rfl
  have z0 : d.nm.size ≤ 9223372036854775807 := by omega
  have z1 : d.ar.l.length ≤ 9223372036854775807 := by omega
  have z2 : d.cv.l.length ≤ 9223372036854775807 := by omega
  have g0 : decide ((100 : Int) < (d.nm.size : Int)) = decide (100 < d.nm.size) := by rw [Bool.eq_iff_iff]; simp only [decide_eq_true_eq]; omega
  have g1 : decide ((120 : Int) < (d.ar.l.length : Int)) = decide (120 < d.ar.l.length) := by rw [Bool.eq_iff_iff]; simp only [decide_eq_true_eq]; omega
  have g2 : decide ((120 : Int) < (d.cv.l.length : Int)) = decide (120 < d.cv.l.length) := by rw [Bool.eq_iff_iff]; simp only [decide_eq_true_eq]; omega
  have ways : (decide (100 < d.nm.size) = true) ∨ (decide (100 < d.nm.size) = false ∧ decide (120 < d.ar.l.length) = true) ∨ (decide (100 < d.nm.size) = false ∧ decide (120 < d.ar.l.length) = false) := by
    generalize decide (100 < d.nm.size) = p0
    generalize decide (120 < d.ar.l.length) = p1
    generalize decide (120 < d.cv.l.length) = p2
    revert p0 p1 p2
    decide
  clear h1 h2 h3
  rcases ways with y0 | ⟨y0, y1⟩ | ⟨y0, y1⟩
  ·
    rw [y0] at g0
    go_enter Tryz.func23, Tryz.ntmps23
    go_wp2
    go_ret
    exact ⟨ret_bool (by rw [EV.out]; simp [y0]), XB.out⟩
  ·
    rw [y0] at g0
    rw [y1] at g1
    go_enter Tryz.func23, Tryz.ntmps23
    go_wp2
    go_ret
    exact ⟨ret_bool (by rw [EV.out]; simp [y0, y1]), XB.out⟩
  ·
    rw [y0] at g0
    rw [y1] at g1
    go_enter Tryz.func23, Tryz.ntmps23
    go_wp2
    go_ret
    exact ⟨ret_bool (by rw [EV.out]; simp [y0, y1]), XB.out⟩
theorem hvNd_any (l : List Nod) (A : Option Addr) (cap : Nat) (w : World) (hl : NodSl w A l) : Calls Tryz.prog 18 #[.slice A l.length cap, .func (.func 19) #[] #[]] w (RetW (.bool (l.any hvQ1)) w) :=
  cfNd_any 19 hvQ1 l A cap w (fun d W _ h => heavy1_any d W h.1 h.2.1) (fun d w => enters_of Tryz.func19 (by kernel_rfl) rfl _ w) hl
theorem hvLk_any (l : List Lnk) (A : Option Addr) (cap : Nat) (w : World) (hl : LnkSl w A l) : Calls Tryz.prog 20 #[.slice A l.length cap, .func (.func 21) #[] #[]] w (RetW (.bool (l.any hvQ2)) w) :=
  cfLk_any 21 hvQ2 l A cap w (fun d W _ h => heavy2_any d W h.1.1 h.1.2.1 h.1.2.2.1 h.1.2.2.2 h.2.1) (fun d w => enters_of Tryz.func21 (by kernel_rfl) rfl _ w) hl
theorem hvSe_any (l : List Sec) (A : Option Addr) (cap : Nat) (w : World) (hl : SecSl w A l) : Calls Tryz.prog 22 #[.slice A l.length cap, .func (.func 23) #[] #[]] w (RetW (.bool (l.any hvQ3)) w) :=
  cfSe_any 23 hvQ3 l A cap w (fun d W _ h => heavy3_any d W h.1 h.2.1.1 h.2.2.1) (fun d w => enters_of Tryz.func23 (by kernel_rfl) rfl _ w) hl
set_option maxRecDepth 100000 in
set_option maxHeartbeats 4000000 in
theorem heavy_raw (nl : List Nod) (A : Option Addr) (cA : Nat) (ll : List Lnk) (B : Option Addr) (cB : Nat) (sl : List Sec) (C : Option Addr) (cC : Nat) (w : World) (h : NodSl w A nl ∧ LnkSl w B ll) (hs : SecSl w C sl) :
    Calls Tryz.prog 6 #[.agg #[.slice A nl.length cA, .slice B ll.length cB], .slice C sl.length cC] w (SomeB w) := by
  have K1 := hide (fun W (hb : Below w.heap.size w W) => hvNd_any nl A cA W (h.1.below hb))
  have K2 := hide (fun W (hb : Below w.heap.size w W) => hvLk_any ll B cB W (h.2.below hb))
  have K3 := hide (fun W (hb : Below w.heap.size w W) => hvSe_any sl C cC W (hs.below hb))
  unfold RetW at K1 K2 K3
  have z1 : nl.length ≤ 9223372036854775807 := by have := h.1.1.1; unfold maxLen at this; omega
  have z2 : ll.length ≤ 9223372036854775807 := by have := h.2.1.1; unfold maxLen at this; omega
  have z3 : sl.length ≤ 9223372036854775807 := by have := hs.1.1; unfold maxLen at this; omega
  have g1 : decide ((12 : Int) < (nl.length : Int)) = decide (12 < nl.length) := by rw [Bool.eq_iff_iff]; simp only [decide_eq_true_eq]; omega
  have g2 : decide ((20 : Int) < (ll.length : Int)) = decide (20 < ll.length) := by rw [Bool.eq_iff_iff]; simp only [decide_eq_true_eq]; omega
  have g3 : decide ((12 : Int) < (sl.length : Int)) = decide (12 < sl.length) := by rw [Bool.eq_iff_iff]; simp only [decide_eq_true_eq]; omega
  have X := (Own.start w).alloc #[.slice A nl.length cA, .slice B ll.length cB] 25
  have hr := X.r1
  have XB := hide X
  clear X h hs
  generalize nl.any hvQ1 = b1 at *
  generalize ll.any hvQ2 = b2 at *
  generalize sl.any hvQ3 = b3 at *
  have ways : decide (12 < nl.length) = true ∨ (decide (12 < nl.length) = false ∧ decide (20 < ll.length) = true) ∨ (decide (12 < nl.length) = false ∧ decide (20 < ll.length) = false ∧ decide (12 < sl.length) = true) ∨ (decide (12 < nl.length) = false ∧ decide (20 < ll.length) = false ∧ decide (12 < sl.length) = false) := by
    generalize decide (12 < nl.length) = p0
    generalize decide (20 < ll.length) = p1
    generalize decide (12 < sl.length) = p2
    revert p0 p1 p2
    decide
  rcases ways with y0 | ⟨y0, y1⟩ | ⟨y0, y1, y2⟩ | ⟨y0, y1, y2⟩
  · rw [y0] at g1
    go_enter Tryz.func6, Tryz.ntmps6
    go_wp2
    go_ret
    exact ⟨_, rfl, XB.out.1⟩
  · rw [y0] at g1
    rw [y1] at g2
    go_enter Tryz.func6, Tryz.ntmps6
    go_wp2
    go_ret
    exact ⟨_, rfl, XB.out.1⟩
  · rw [y0] at g1
    rw [y1] at g2
    rw [y2] at g3
    go_enter Tryz.func6, Tryz.ntmps6
    go_wp2
    go_ret
    exact ⟨_, rfl, XB.out.1⟩
  · rw [y0] at g1
    rw [y1] at g2
    rw [y2] at g3
    go_enter Tryz.func6, Tryz.ntmps6
    go_wp2_with fail
    refine (K1.out _ XB.out.1).mono ?_
    rintro e w1 ⟨rfl, hb⟩
    replace XB := hide (XB.out.to hb)
    clear hb hr
    have hr := XB.out.r1
    cases b1 with
    | true =>
      go_wp2
      go_ret
      exact ⟨_, rfl, XB.out.1⟩
    | false =>
      go_wp2_with fail
      refine (K2.out _ XB.out.1).mono ?_
      rintro e w2 ⟨rfl, hb⟩
      replace XB := hide (XB.out.to hb)
      clear hb hr
      have hr := XB.out.r1
      cases b2 with
      | true =>
        go_wp2
        go_ret
        exact ⟨_, rfl, XB.out.1⟩
      | false =>
        go_wp2_with fail
        refine (K3.out _ XB.out.1).mono ?_
        rintro e w3 ⟨rfl, hb⟩
        replace XB := hide (XB.out.to hb)
        clear hb hr
        go_wp2
        go_ret
        exact ⟨_, rfl, XB.out.1⟩
set_option maxRecDepth 100000 in
theorem heavy_any (n : Net) (sl : List Sec) (C : Option Addr) (cC : Nat) (w : World) (h : NetSl w n) (hs : SecSl w C sl) : Calls Tryz.prog 6 #[n.val, .slice C sl.length cC] w (SomeB w) :=
  heavy_raw n.nl n.A n.c n.ll n.B n.c' sl C cC w h hs
end Go.Proofs.YtdcdfjinbieblaaGreatDoor

namespace Go.Proofs.YtdcdfjinbieblaaGreatDoor
open Go Go.RowKit

/-- what a link adds to the i-th section's length -/
def lnA (sl : List Sec) (i : Nat) (l : Lnk) : Int := if l.kd = 1 ∧ seIx sl l.se = i then l.le else 0
/-- the length of all pipes of the i-th section -/
def lenA (sl : List Sec) (ll : List Lnk) (i : Nat) : Int := (ll.map (lnA sl i)).sum
theorem lenA_nil (sl : List Sec) (i : Nat) : lenA sl [] i = 0 := rfl
theorem lenA_snoc (sl : List Sec) (ll : List Lnk) (l : Lnk) (i : Nat) : lenA sl (ll ++ [l]) i = lenA sl ll i + lnA sl i l := by
  unfold lenA; simp
theorem lenA_take {sl : List Sec} {ll : List Lnk} {k : Nat} (h : k < ll.length) (i : Nat) : lenA sl (ll.take (k + 1)) i = lenA sl (ll.take k) i + lnA sl i ll[k] := by
  rw [List.take_succ_eq_append_getElem h, lenA_snoc]
theorem lenA_bd (sl : List Sec) (i : Nat) : ∀ ll : List Lnk, (∀ l ∈ ll, l.kd = 1 → 1 ≤ l.le ∧ l.le ≤ 16777216) → 0 ≤ lenA sl ll i ∧ lenA sl ll i ≤ 16777216 * (ll.length : Int)
  | [], _ => by simp [lenA]
  | l :: ll, h => by
    have ih := lenA_bd sl i ll (fun x hx => h x (by simp [hx]))
    have h1 := h l (by simp)
    have e : lenA sl (l :: ll) i = lnA sl i l + lenA sl ll i := by unfold lenA; simp
    have h2 : 0 ≤ lnA sl i l ∧ lnA sl i l ≤ 16777216 := by
      unfold lnA; split
      · rename_i c; have := h1 c.1; omega
      · omega
    rw [e]; simp only [List.length_cons]; push_cast; omega
/-- every pipe's section is in the catalogue -/
def pipOK (sl : List Sec) (ll : List Lnk) : Bool := ll.all fun l => !(decide (l.kd = 1) && decide (seIx sl l.se < 0))
theorem pipOK_bad {sl : List Sec} {ll : List Lnk} {k : Nat} (hk : k < ll.length) (h1 : ll[k].kd = 1) (h2 : seIx sl ll[k].se < 0) : pipOK sl ll = false := by
  cases e : pipOK sl ll with
  | false => rfl
  | true =>
    have := (List.all_eq_true.1 e) _ (List.getElem_mem hk)
    simp [h1, h2] at this
theorem pipOK_all {sl : List Sec} {ll : List Lnk} (h : ∀ i (hi : i < ll.length), ll[i].kd = 1 → 0 ≤ seIx sl ll[i].se) : pipOK sl ll = true := by
  refine List.all_eq_true.2 fun l hl => ?_
  obtain ⟨i, hi, rfl⟩ := List.mem_iff_getElem.1 hl
  have := h i hi
  by_cases c : ll[i].kd = 1
  · have := this c; simp [c]; omega
  · simp [c]
/-- the items of the first n sections -/
def pipN (sl : List Sec) (f : Nat → Int) : Nat → List Itm
  | 0 => []
  | n + 1 => pipN sl f n ++ (match sl[n]? with | some s => if 0 < f n then [⟨s.nm, (f n + 999) / 1000, s.pr⟩] else [] | none => [])
theorem pipN_yes {sl : List Sec} {f : Nat → Int} {k : Nat} (hk : k < sl.length) (h : 0 < f k) : pipN sl f (k + 1) = pipN sl f k ++ [⟨sl[k].nm, (f k + 999) / 1000, sl[k].pr⟩] := by
  simp [pipN, List.getElem?_eq_getElem hk, h]
theorem pipN_no {sl : List Sec} {f : Nat → Int} {k : Nat} (hk : k < sl.length) (h : ¬ 0 < f k) : pipN sl f (k + 1) = pipN sl f k := by
  simp [pipN, List.getElem?_eq_getElem hk, h]
theorem pipN_len (sl : List Sec) (f : Nat → Int) : ∀ n, (pipN sl f n).length ≤ n
  | 0 => by simp [pipN]
  | n + 1 => by
    have ih := pipN_len sl f n
    unfold pipN
    rw [List.length_append]
    split
    · split <;> simp <;> omega
    · simp; omega
def pipI (sl : List Sec) (ll : List Lnk) : List Itm := pipN sl (lenA sl ll) sl.length
def piE (nl : List Nod) (ll : List Lnk) (sl : List Sec) : Int := if (vNet nl ll && vCat sl) = true then if pipOK sl ll = true then 0 else 9 else 1
def piL (nl : List Nod) (ll : List Lnk) (sl : List Sec) : List Itm := if (vNet nl ll && vCat sl) = true then if pipOK sl ll = true then pipI sl ll else [] else []
theorem secOk_at {sl : List Sec} (h : vCat sl = true) {k : Nat} (hk : k < sl.length) : secB sl[k] = true ∧ seIx sl sl[k].nm = k := by
  unfold vCat at h
  simp only [Bool.and_eq_true, decide_eq_true_eq, List.all_eq_true, List.mem_range] at h
  have := h.2 k hk
  simpa [secOk, List.getElem?_eq_getElem hk] using this
theorem lnkOk_at {nl : List Nod} {ll : List Lnk} (h : vNet nl ll = true) {k : Nat} (hk : k < ll.length) : lnkB ll[k] = true ∧ lkIx ll ll[k].nm = k := by
  unfold vNet at h
  simp only [Bool.and_eq_true, decide_eq_true_eq, List.all_eq_true, List.mem_range] at h
  have := h.2.2 k hk
  simp only [lnkOk, List.getElem?_eq_getElem hk, Bool.and_eq_true, decide_eq_true_eq] at this
  exact ⟨this.1.1.1, this.1.1.2⟩
/-- a right pipe's length -/
theorem lnk_le {l : Lnk} (h : lnkB l = true) (k : l.kd = 1) : 1 ≤ l.le ∧ l.le ≤ 16777216 := by
  unfold lnkB at h
  simp only [k, if_true, Bool.and_eq_true, inB, decide_eq_true_eq] at h
  have := h.2
  omega
end Go.Proofs.YtdcdfjinbieblaaGreatDoor

namespace Go.Proofs.YtdcdfjinbieblaaGreatDoor
open Go Go.RowKit

def lenV (sl : List Sec) (ll : List Lnk) (k : Nat) : Nat → Value := fun i => .int .i64 (lenA sl (ll.take k) i)
theorem lenV_zero (sl : List Sec) (ll : List Lnk) : lenV sl ll 0 = fun _ => .int .i64 0 := by
  funext i; unfold lenV; rw [List.take_zero, lenA_nil]
theorem lenV_end (sl : List Sec) (ll : List Lnk) : lenV sl ll ll.length = fun i => .int .i64 (lenA sl ll i) := by
  funext i; unfold lenV; rw [List.take_length]
theorem lenV_skip {sl : List Sec} {ll : List Lnk} {k : Nat} (hk : k < ll.length) (h : ¬ ll[k].kd = 1) : lenV sl ll (k + 1) = lenV sl ll k := by
  funext i; unfold lenV; rw [lenA_take hk]
  unfold lnA; rw [if_neg (fun c => h c.1)]; simp
theorem lenV_put {sl : List Sec} {ll : List Lnk} {k j n : Nat} (hk : k < ll.length) (h : ll[k].kd = 1) (hj : seIx sl ll[k].se = (j : Int)) :
    (mkRow n (lenV sl ll k)).setIfInBounds j (.int .i64 (lenA sl (ll.take k) j + ll[k].le)) = mkRow n (lenV sl ll (k + 1)) := by
  rw [mkRow_set]
  refine mkRow_congr fun i _ => ?_
  unfold lenV
  rw [lenA_take hk]
  unfold lnA
  by_cases e : i = j
  · subst e; rw [if_pos rfl, if_pos ⟨h, hj⟩]
  · rw [if_neg e, if_neg (fun c => e (by have := c.2; rw [hj] at this; omega))]; simp
theorem lenA_bound {nl : List Nod} {sl : List Sec} {ll : List Lnk} (hv : vNet nl ll = true) (k i : Nat) : 0 ≤ lenA sl (ll.take k) i ∧ lenA sl (ll.take k) i ≤ 6710886400 := by
  have h1 := lenA_bd sl i (ll.take k) (fun l hl hk => by
    obtain ⟨m, hm, rfl⟩ := List.mem_iff_getElem.1 (List.mem_of_mem_take hl)
    exact lnk_le (lnkOk_at hv hm).1 hk)
  have h2 : ll.length ≤ 400 := by
    unfold vNet at hv
    simp only [Bool.and_eq_true, decide_eq_true_eq] at hv
    exact hv.1.2
  have h3 : (ll.take k).length ≤ 400 := by rw [List.length_take]; omega
  omega
theorem pipN_nm {sl : List Sec} {f : Nat → Int} (h : ∀ i (hi : i < sl.length), sl[i].nm.size ≤ maxLen) : ∀ n, ∀ x ∈ pipN sl f n, x.nm.size ≤ maxLen
  | 0, x, hx => by simp [pipN] at hx
  | n + 1, x, hx => by
    unfold pipN at hx
    rcases List.mem_append.1 hx with hx | hx
    · exact pipN_nm h n x hx
    · split at hx
      · rename_i s hs
        obtain ⟨hi, rfl⟩ := List.getElem?_eq_some_iff.1 hs
        split at hx
        · simp at hx; subst hx; exact h n hi
        · simp at hx
      · simp at hx
theorem pi_no {nl : List Nod} {ll : List Lnk} {sl : List Sec} (h : (vNet nl ll && vCat sl) = false) : piE nl ll sl = 1 ∧ piL nl ll sl = [] := by
  unfold piE piL; rw [h]; exact ⟨rfl, rfl⟩
theorem pi_bad {nl : List Nod} {ll : List Lnk} {sl : List Sec} (h : (vNet nl ll && vCat sl) = true) (h2 : pipOK sl ll = false) : piE nl ll sl = 9 ∧ piL nl ll sl = [] := by
  unfold piE piL; rw [h, h2]; exact ⟨rfl, rfl⟩
theorem pi_yes {nl : List Nod} {ll : List Lnk} {sl : List Sec} (h : (vNet nl ll && vCat sl) = true) (h2 : pipOK sl ll = true) : piE nl ll sl = 0 ∧ piL nl ll sl = pipN sl (lenA sl ll) sl.length := by
  unfold piE piL; rw [h, h2]; exact ⟨rfl, rfl⟩
theorem seIx_two (sl : List Sec) (s : ByteArray) : seIx sl s = -1 ∨ ∃ j : Nat, seIx sl s = (j : Int) ∧ j < sl.length := by
  unfold seIx ixB
  cases h : sl.findIdx? (fun x => x.nm.toList == s.toList) with
  | none => exact .inl rfl
  | some i => exact .inr ⟨i, rfl, (List.findIdx?_eq_some_iff_getElem.1 h).1⟩
end Go.Proofs.YtdcdfjinbieblaaGreatDoor

namespace Go.Proofs.YtdcdfjinbieblaaGreatDoor
open Go Go.RowKit

abbrev Itm.cs (x : Itm) : List Value := [.string x.nm, .int .i64 x.am, .int .i64 x.pr]
def flatItm (l : List Itm) : List Value := l.flatMap Itm.cs
theorem flatItm_append (a b : List Itm) : flatItm (a ++ b) = flatItm a ++ flatItm b := by simp [flatItm]
theorem flatItm_len (l : List Itm) : (flatItm l).length = l.length * 3 := by
  induction l with
  | nil => rfl
  | cons c l ih => simp only [flatItm, List.flatMap_cons, List.length_append, List.length_cons] at ih ⊢; rw [ih]; simp; omega
theorem flatItm_at : ∀ (l : List Itm) (i : Nat) (h : i < l.length), (flatItm l)[i * 3]? = some (.string l[i].nm) ∧ (flatItm l)[i * 3 + 1]? = some (.int .i64 l[i].am) ∧ (flatItm l)[i * 3 + 2]? = some (.int .i64 l[i].pr)
  | [], i, h => absurd h (by simp)
  | c :: l, 0, _ => ⟨rfl, rfl, rfl⟩
  | c :: l, i + 1, h => by
    have ih := flatItm_at l i (by simpa using h)
    have e : flatItm (c :: l) = c.cs ++ flatItm l := rfl
    have k : ∀ j, (flatItm (c :: l))[(i + 1) * 3 + j]? = (flatItm l)[i * 3 + j]? := fun j => by
      rw [e, List.getElem?_append_right (by simp; omega)]
      congr 1
      simp; omega
    exact ⟨(k 0).trans ih.1, (k 1).trans ih.2.1, (k 2).trans ih.2.2⟩
theorem flatItm_set : ∀ (l : List Itm) (i : Nat) (h : i < l.length) (a : Int), (flatItm l).set (i * 3 + 1) (.int .i64 a) = flatItm (l.set i ⟨l[i].nm, a, l[i].pr⟩)
  | [], _, h, _ => absurd h (by simp)
  | c :: l, 0, _, a => rfl
  | c :: l, i + 1, h, a => by
    have ih := flatItm_set l i (by simpa using h) a
    have e : ∀ (c : Itm) l, flatItm (c :: l) = c.cs ++ flatItm l := fun _ _ => rfl
    rw [List.set_cons_succ, e, e, List.set_append_right _ _ (by simp; omega)]
    simp only [List.getElem_cons_succ]
    rw [← ih]
    congr 2
    simp; omega
theorem flatItm_one (l : List Itm) : ∀ u ∈ flatItm l, u.oneCell' = true := by
  intro u hu
  obtain ⟨x, _, hx⟩ := List.mem_flatMap.1 hu
  simp only [Itm.cs, List.mem_cons, List.not_mem_nil, or_false] at hx
  rcases hx with rfl | rfl | rfl <;> rfl
theorem itm_info : (Tryz.prog.info? 43).map (fun i => (i.zero, i.size, i.bytes)) = some (some (.agg #[.string ⟨#[]⟩, .int .i64 0, .int .i64 0]), 3, 32) := by kernel_rfl
/-- a row of items of the call's own reads as a list -/
theorem ItmSl.of_row {w : World} {base : Nat} {e : TypeId} {v : Value} {n : Nat} {l : List Itm} (h : w.ownsRow base e 3 v n (flatItm l)) (hn : ∀ i (h : i < l.length), l[i].nm.size ≤ maxLen) : ∃ A c, v = .slice A l.length c ∧ ItmSl w A l := by
  have hl : n = l.length := by have := h.1; rw [flatItm_len] at this; omega
  subst hl
  rcases h.2 with ⟨rfl, h0⟩ | ⟨g, cap, cur, rfl, _, hg, hc, hm, hs, ht⟩
  · exact ⟨none, 0, by rw [h0], ⟨by rw [h0]; unfold maxLen; omega, hn⟩, fun h => by omega⟩
  · refine ⟨_, cap, rfl, ⟨by omega, hn⟩, fun h0 => ⟨g, 0, rfl, ?_, fun i hi => ?_⟩⟩
    · rcases Nat.lt_or_ge g w.heap.size with k | k
      · exact k
      · rw [Array.getElem?_eq_none k] at hg; cases hg
    · have c : ∀ j u, (flatItm l)[j]? = some u → w.cell? ⟨g, j, none⟩ = some u := fun j u hj => by
        rw [cell_of_row w g j cur e (0, 0) hg]
        rw [← ht] at hj
        rw [List.getElem?_take] at hj
        split at hj
        · simpa using hj
        · cases hj
      obtain ⟨a0, a1, a2⟩ := flatItm_at l i hi
      exact ⟨c _ _ (by rw [Nat.zero_add]; exact a0), c _ _ (by rw [Nat.zero_add]; exact a1), c _ _ (by rw [Nat.zero_add]; exact a2)⟩
/-- one cell of an own row is set -/
theorem row_put {w : World} {base : Nat} {e : TypeId} {size n g cap : Nat} {xs : List Value} (h : w.ownsRow base e size (.slice (some ⟨g, 0, none⟩) n cap) n xs) (j : Nat) (u : Value) :
    (w.setCell ⟨g, j, none⟩ u).ownsRow base e size (.slice (some ⟨g, 0, none⟩) n cap) n (xs.set j u) := by
  refine ⟨by rw [List.length_set]; exact h.1, ?_⟩
  rcases h.2 with ⟨h0, _⟩ | ⟨g', cap', cur, e', hb, hg, hc, hm, hs, ht⟩
  · cases h0
  · simp only [Value.slice.injEq, Option.some.injEq, Addr.mk.injEq, and_true] at e'
    obtain ⟨rfl, -, rfl⟩ := e'
    refine .inr ⟨g, cap, cur.setIfInBounds j u, rfl, hb, ?_, hc, hm, by simpa using hs, ?_⟩
    · exact Blk.set_ (show Blk w g e cur from hg) j u
    · rw [Array.toList_setIfInBounds, List.take_set, ht]
/-- a bill in memory, and an error -/
def BilPost (l : List Itm) (er : Int) (w : World) (e : Ending) (w' : World) : Prop := Below w.heap.size w w' ∧ ∃ (A : Option Addr) (c : Nat), e = .returned (.tuple #[.slice A l.length c, .int .i64 er]) ∧ ItmSl w' A l
theorem int_infoP : (Tryz.prog.info? 3).map (fun i => (i.zero, i.size, i.bytes)) = some (some (.int .i64 0), 1, 8) := by kernel_rfl
theorem make_ints (c : Nat) (hc : c ≤ 1000) (W : World) : (Instr.makeSlice 77 (.int .i64 (c : Int)) (.int .i64 (c : Int))).run Tryz.prog W = .ok (.slice (some ⟨W.heap.size, 0, none⟩) c c) (W.alloc (.cells (mkRow c (fun _ => .int .i64 0)) 3)) := by
  obtain ⟨i1, hi1, hy0, hy1, hy2⟩ := info_parts int_infoP
  have := run_make_rowN (P := Tryz.prog) 77 3 i1 (.int .i64 0) Tryz.underlying77 hi1 hy0 .i64 .i64 c c (by omega) (by rw [hy2]; omega) (by omega) W
  rw [hy1, Nat.mul_one] at this
  rw [show mkRow c (fun _ => Value.int .i64 0) = madeCells (Value.int .i64 0).cells c from (mkRow_made c (.int .i64 0)).symm]
  exact this
end Go.Proofs.YtdcdfjinbieblaaGreatDoor

namespace Go.Proofs.YtdcdfjinbieblaaGreatDoor
open Go Go.RowKit

/-- a place is that of a node that is no outfall -/
def ndP (nl : List Nod) (i : Int) : Bool := decide (0 ≤ i) && match nl[i.toNat]? with | some y => !decide (y.kd = 3) | none => false
theorem nodOk_at {nl : List Nod} {k : Nat} (hk : k < nl.length) : nodOk nl k = (nodB nl[k] && decide (ndIx nl nl[k].nm = k)) := by
  simp [nodOk, List.getElem?_eq_getElem hk]
theorem lnkOk_eq {nl : List Nod} {ll : List Lnk} {k : Nat} (hk : k < ll.length) : lnkOk nl ll k = (lnkB ll[k] && decide (lkIx ll ll[k].nm = k) && decide (0 ≤ ndIx nl ll[k].tn) && ndP nl (ndIx nl ll[k].fr)) := by
  simp only [lnkOk, List.getElem?_eq_getElem hk]; rfl
theorem ixB_range {α : Type} (p : α → Bool) (l : List α) : ixB p l = -1 ∨ ∃ j : Nat, ixB p l = (j : Int) ∧ j < l.length := by
  unfold ixB
  cases h : l.findIdx? p with
  | none => exact .inl rfl
  | some i => exact .inr ⟨i, rfl, (List.findIdx?_eq_some_iff_getElem.1 h).1⟩
theorem ndIx_range (nl : List Nod) (s : ByteArray) : ndIx nl s = -1 ∨ ∃ j : Nat, ndIx nl s = (j : Int) ∧ j < nl.length := ixB_range _ _
theorem ndP_neg (nl : List Nod) : ndP nl (-1) = false := rfl
theorem ndP_at {nl : List Nod} {j : Nat} (h : j < nl.length) : ndP nl (j : Int) = !decide (nl[j].kd = 3) := by
  simp [ndP, List.getElem?_eq_getElem h]
theorem vNet_many {nl : List Nod} {ll : List Lnk} (h : 300 < nl.length ∨ 400 < ll.length) : vNet nl ll = false := by
  cases e : vNet nl ll with
  | false => rfl
  | true =>
    unfold vNet at e
    simp only [Bool.and_eq_true, decide_eq_true_eq] at e
    omega
theorem vNet_nod {nl : List Nod} {ll : List Lnk} {k : Nat} (hk : k < nl.length) (h : nodOk nl k = false) : vNet nl ll = false := by
  cases e : vNet nl ll with
  | false => rfl
  | true =>
    unfold vNet at e
    simp only [Bool.and_eq_true, decide_eq_true_eq, List.all_eq_true, List.mem_range] at e
    rw [e.2.1 k hk] at h; cases h
theorem vNet_lnk {nl : List Nod} {ll : List Lnk} {k : Nat} (hk : k < ll.length) (h : lnkOk nl ll k = false) : vNet nl ll = false := by
  cases e : vNet nl ll with
  | false => rfl
  | true =>
    unfold vNet at e
    simp only [Bool.and_eq_true, decide_eq_true_eq, List.all_eq_true, List.mem_range] at e
    rw [e.2.2 k hk] at h; cases h
theorem vNet_all {nl : List Nod} {ll : List Lnk} (h1 : nl.length ≤ 300) (h2 : ll.length ≤ 400) (h3 : ∀ i, i < nl.length → nodOk nl i = true) (h4 : ∀ i, i < ll.length → lnkOk nl ll i = true) : vNet nl ll = true := by
  unfold vNet
  simp only [Bool.and_eq_true, decide_eq_true_eq, List.all_eq_true, List.mem_range]
  exact ⟨⟨h1, h2⟩, h3, h4⟩
end Go.Proofs.YtdcdfjinbieblaaGreatDoor

namespace Go.Proofs.YtdcdfjinbieblaaGreatDoor
open Go Go.RowKit

theorem vKn_mono {t : List Knt} (h : vKn t = true) : ∀ j, j < t.length → ∀ i, i ≤ j → (t.getD i ⟨0, 0⟩).x ≤ (t.getD j ⟨0, 0⟩).x ∧ (t.getD i ⟨0, 0⟩).y ≤ (t.getD j ⟨0, 0⟩).y
  | 0, _, i, hi => by
    obtain rfl : i = 0 := by omega
    exact ⟨Int.le_refl _, Int.le_refl _⟩
  | j + 1, hj, i, hi => by
    by_cases e : i = j + 1
    · subst e; exact ⟨Int.le_refl _, Int.le_refl _⟩
    · have ih := vKn_mono h j (by omega) i (by omega)
      have k := (vKn_iff.1 h).2 (j + 1) hj
      unfold knB at k
      simp only [Bool.and_eq_true, Bool.or_eq_true, decide_eq_true_eq, Nat.add_sub_cancel] at k
      obtain ⟨_, k | k⟩ := k
      · omega
      · omega
theorem curB_any {t : List Knt} (h : vKn t = true) : curB t = !(t.any fun k => !(inB 0 4194304 k.x) || !(inB 0 1099511627776 k.y)) := by
  have hl := (vKn_iff.1 h).1
  rw [Bool.eq_iff_iff]
  unfold curB
  rw [h]
  simp only [Bool.true_and, Bool.and_eq_true, decide_eq_true_eq, Bool.not_eq_true', List.any_eq_false, Bool.or_eq_true, Bool.not_eq_false, not_or, inB]
  constructor
  · rintro ⟨⟨a, b⟩, c, d⟩ k hk
    obtain ⟨i, hi, rfl⟩ := List.mem_iff_getElem.1 hk
    have m0 := vKn_mono h i hi 0 (by omega)
    have m1 := vKn_mono h (t.length - 1) (by omega) i (by omega)
    have e : t.getD i ⟨0, 0⟩ = t[i] := by simp [List.getD, List.getElem?_eq_getElem hi]
    rw [e] at m0 m1
    omega
  · intro q
    have e0 : t.getD 0 ⟨0, 0⟩ = t[0] := by simp [List.getD, List.getElem?_eq_getElem (show 0 < t.length by omega)]
    have e1 : t.getD (t.length - 1) ⟨0, 0⟩ = t[t.length - 1] := by simp [List.getD, List.getElem?_eq_getElem (show t.length - 1 < t.length by omega)]
    have q0 := q _ (List.getElem_mem (show 0 < t.length by omega))
    have q1 := q _ (List.getElem_mem (show t.length - 1 < t.length by omega))
    rw [e0, e1]
    omega
end Go.Proofs.YtdcdfjinbieblaaGreatDoor

namespace Go.Proofs.YtdcdfjinbieblaaGreatDoor
open Go Go.RowKit

theorem rnum_any (n : Int) (w : World) : Calls Tryz.prog 142 #[.int .i64 n] w fun e w' => e = .returned (.bool (inB (-1125899906842624) 1125899906842624 n)) ∧ w = w' := by
  unfold inB
  have ways : (decide (-1125899906842624 ≤ n) = true ∧ decide (n ≤ 1125899906842624) = true) ∨ (decide (-1125899906842624 ≤ n) = true ∧ decide (n ≤ 1125899906842624) = false) ∨ decide (-1125899906842624 ≤ n) = false := by
    simp only [decide_eq_true_eq, decide_eq_false_iff_not]; omega
  rcases ways with ⟨a, b⟩ | ⟨a, b⟩ | a
  · rw [a, b]
    go_enter Tryz.func142, Tryz.ntmps142
    go_wp2
    go_ret
    exact ⟨rfl, rfl⟩
  · rw [a, b]
    go_enter Tryz.func142, Tryz.ntmps142
    go_wp2
    go_ret
    exact ⟨rfl, rfl⟩
  · rw [a, Bool.false_and]
    go_enter Tryz.func142, Tryz.ntmps142
    go_wp2
    go_ret
    exact ⟨rfl, rfl⟩
theorem knB_at {t : List Knt} {k : Nat} (hk : k + 1 < t.length) : knB t (k + 1) = ((inB (-1125899906842624) 1125899906842624 t[k + 1].x && inB (-1125899906842624) 1125899906842624 t[k + 1].y) && (decide (t[k].x < t[k + 1].x) && decide (t[k].y ≤ t[k + 1].y))) := by
  have h2 : k < t.length := by omega
  unfold knB
  simp [List.getD, List.getElem?_eq_getElem hk, List.getElem?_eq_getElem h2]
theorem knB_0 {t : List Knt} (hk : 0 < t.length) : knB t 0 = (inB (-1125899906842624) 1125899906842624 t[0].x && inB (-1125899906842624) 1125899906842624 t[0].y) := by
  unfold knB
  simp [List.getD, List.getElem?_eq_getElem hk]
theorem knB_z {t : List Knt} {k : Nat} (hk : k < t.length) (h : k = 0) : knB t k = (inB (-1125899906842624) 1125899906842624 t[k].x && inB (-1125899906842624) 1125899906842624 t[k].y) := by
  subst h; exact knB_0 hk
theorem knB_s {t : List Knt} {k j : Nat} (hk : k < t.length) (hj : j < t.length) (h : k = j + 1) : knB t k = ((inB (-1125899906842624) 1125899906842624 t[k].x && inB (-1125899906842624) 1125899906842624 t[k].y) && (decide (t[j].x < t[k].x) && decide (t[j].y ≤ t[k].y))) := by
  subst h; exact knB_at hk
set_option maxRecDepth 100000 in
set_option maxHeartbeats 2000000 in
theorem rtab_any (l : List Knt) (A : Option Addr) (cap : Nat) (w : World) (hl : KnSl w A l) : Calls Tryz.prog 108 #[.slice A l.length cap] w (RetW (.bool (vKn l)) w) := by
  have hlen : l.length ≤ 9223372036854775807 := by have := hl.1; unfold maxLen at this; omega
  have HL := hide hl
  have RN := hide (fun (n : Int) W => rnum_any n W)
  have VL := hide (fun h => vKn_len (t := l) h)
  have VB := hide (fun k hk h => vKn_bad (t := l) (k := k) hk h)
  have VA := hide (fun h => (vKn_iff (t := l)).2 h)
  generalize vKn l = v at *
  clear hl
  by_cases h0 : l.length < 1
  · have g0 : decide ((l.length : Int) < 1) = true := decide_eq_true (by omega)
    have E := hide (VL.out (.inl h0))
    go_enter Tryz.func108, Tryz.ntmps108
    go_wp2
    go_ret
    exact ⟨ret_bool E.out.symm, Below.refl _ _⟩
  have g0 : decide ((l.length : Int) < 1) = false := decide_eq_false (by omega)
  by_cases h1 : 100 < l.length
  · have g1 : decide (100 < (l.length : Int)) = true := decide_eq_true (by omega)
    have E := hide (VL.out (.inr h1))
    go_enter Tryz.func108, Tryz.ntmps108
    go_wp2
    go_ret
    exact ⟨ret_bool E.out.symm, Below.refl _ _⟩
  have g1 : decide (100 < (l.length : Int)) = false := decide_eq_false (by omega)
  go_enter Tryz.func108, Tryz.ntmps108
  go_wp2
  go_loopw [3] (fun v3 wr => ∃ k : Nat, k ≤ l.length ∧ v3 = .int .i64 (k : Int) ∧ Hid (Below w.heap.size w wr) ∧ Hid (∀ i, i < k → knB l i = true)) (fun v _ => l.length - (intOf v).toNat)
  case atStart => exact ⟨0, by omega, rfl, hide (Below.refl _ _), hide (fun _ h => by omega)⟩
  case round =>
    obtain ⟨k, hk, rfl, HB, HN⟩ := hrel
    by_cases hlt : k < l.length
    · have d1 : decide (k < l.length) = true := decide_eq_true hlt
      have g2 : (0 : Int) ≤ (k : Int) := by omega
      have g3 : (k : Int) < (l.length : Int) := by omega
      obtain ⟨b, off, rfl, hbl, hat⟩ := (HL.out.below HB.out).2 (by omega)
      obtain ⟨c0, c1⟩ := hat k hlt
      have BAD := hide (fun (h : knB l k = false) => VB.out k hlt h)
      have OK := hide (fun (h : knB l k = true) i (hik : i < k + 1) => (show knB l i = true by
        by_cases e : i = k
        · subst e; exact h
        · exact HN.out i (by omega)))
      clear VL VB VA
      by_cases k0 : k = 0
      · rw [knB_z hlt k0] at BAD OK
        have R0 := hide (fun W => RN.out l[k].x W)
        have R1 := hide (fun W => RN.out l[k].y W)
        have z0 : decide (0 < (k : Int)) = false := decide_eq_false (by omega)
        have z1 : decide (0 < k) = false := decide_eq_false (by omega)
        clear hat HN RN k0
        generalize l[k] = x at *
        generalize inB (-1125899906842624) 1125899906842624 x.x = b0 at *
        generalize inB (-1125899906842624) 1125899906842624 x.y = b1 at *
        cases b0 with
        | false =>
          have E := hide (BAD.out rfl)
          clear BAD OK
          go_wp2_with fail
          refine (R0.out _).mono ?_
          rintro e w' ⟨rfl, rfl⟩
          go_wp2
          go_ret
          exact ⟨ret_bool E.out.symm, HB.out⟩
        | true =>
          cases b1 with
          | false =>
            have E := hide (BAD.out rfl)
            clear BAD OK
            go_wp2_with fail
            refine (R0.out _).mono ?_
            rintro e w' ⟨rfl, rfl⟩
            go_wp2_with fail
            refine (R1.out _).mono ?_
            rintro e w' ⟨rfl, rfl⟩
            go_wp2
            go_ret
            exact ⟨ret_bool E.out.symm, HB.out⟩
          | true =>
            have E := hide (OK.out rfl)
            clear BAD OK
            go_wp2_with fail
            refine (R0.out _).mono ?_
            rintro e w' ⟨rfl, rfl⟩
            go_wp2_with fail
            refine (R1.out _).mono ?_
            rintro e w' ⟨rfl, rfl⟩
            go_wp2
            go_quiet (fail)
            go_wp2
            go_roundw
            case rel => exact ⟨k + 1, by omega, by go_num, hide (below_drewN HB.out _), E⟩
            case measure => simp [intOf]; omega
      · obtain ⟨j, hj⟩ : ∃ j, k = j + 1 := ⟨k - 1, by omega⟩
        have hjl : j < l.length := by omega
        rw [knB_s hlt hjl hj] at BAD OK
        obtain ⟨p0, p1⟩ := hat j hjl
        have R0 := hide (fun W => RN.out l[k].x W)
        have R1 := hide (fun W => RN.out l[k].y W)
        have z0 : decide (0 < (k : Int)) = true := decide_eq_true (by omega)
        have z1 : decide (0 < k) = true := decide_eq_true (by omega)
        have q1 : IntKind.i64.wrap ((k : Int) - 1) = (j : Int) := by rw [IntWalk.i64_in _ (by omega)]; omega
        have i0 : (0 : Int) ≤ (j : Int) := by omega
        have i1 : (j : Int) < (l.length : Int) := by omega
        clear hat HN RN k0
        generalize l[k] = x at *
        generalize l[j] = pv at *
        clear hj
        generalize inB (-1125899906842624) 1125899906842624 x.x = b0 at *
        generalize inB (-1125899906842624) 1125899906842624 x.y = b1 at *
        have ways : (decide (x.x ≤ pv.x) = true ∧ (decide (pv.x < x.x) && decide (pv.y ≤ x.y)) = false) ∨ (decide (x.x ≤ pv.x) = false ∧ decide (x.y < pv.y) = true ∧ (decide (pv.x < x.x) && decide (pv.y ≤ x.y)) = false) ∨ (decide (x.x ≤ pv.x) = false ∧ decide (x.y < pv.y) = false ∧ (decide (pv.x < x.x) && decide (pv.y ≤ x.y)) = true) := by
          simp only [decide_eq_true_eq, decide_eq_false_iff_not, Bool.and_eq_true, Bool.and_eq_false_iff]; omega
        generalize (decide (pv.x < x.x) && decide (pv.y ≤ x.y)) = m at *
        cases b0 with
        | false =>
          have E := hide (BAD.out rfl)
          clear BAD OK ways
          go_wp2_with fail
          refine (R0.out _).mono ?_
          rintro e w' ⟨rfl, rfl⟩
          go_wp2
          go_ret
          exact ⟨ret_bool E.out.symm, HB.out⟩
        | true =>
          cases b1 with
          | false =>
            have E := hide (BAD.out rfl)
            clear BAD OK ways
            go_wp2_with fail
            refine (R0.out _).mono ?_
            rintro e w' ⟨rfl, rfl⟩
            go_wp2_with fail
            refine (R1.out _).mono ?_
            rintro e w' ⟨rfl, rfl⟩
            go_wp2
            go_ret
            exact ⟨ret_bool E.out.symm, HB.out⟩
          | true =>
            rcases ways with ⟨y1, rfl⟩ | ⟨y1, y2, rfl⟩ | ⟨y1, y2, rfl⟩
            · have E := hide (BAD.out rfl)
              clear BAD OK
              go_wp2_with fail
              refine (R0.out _).mono ?_
              rintro e w' ⟨rfl, rfl⟩
              go_wp2_with fail
              refine (R1.out _).mono ?_
              rintro e w' ⟨rfl, rfl⟩
              go_wp2
              go_quiet (fail)
              go_wp2
              go_ret
              exact ⟨ret_bool E.out.symm, below_drewN HB.out _⟩
            · have E := hide (BAD.out rfl)
              clear BAD OK
              go_wp2_with fail
              refine (R0.out _).mono ?_
              rintro e w' ⟨rfl, rfl⟩
              go_wp2_with fail
              refine (R1.out _).mono ?_
              rintro e w' ⟨rfl, rfl⟩
              go_wp2
              go_quiet (fail)
              go_wp2
              go_ret
              exact ⟨ret_bool E.out.symm, below_drewN HB.out _⟩
            · have E := hide (OK.out rfl)
              clear BAD OK
              go_wp2_with fail
              refine (R0.out _).mono ?_
              rintro e w' ⟨rfl, rfl⟩
              go_wp2_with fail
              refine (R1.out _).mono ?_
              rintro e w' ⟨rfl, rfl⟩
              go_wp2
              go_quiet (fail)
              go_wp2
              go_roundw
              case rel => exact ⟨k + 1, by omega, by go_num, hide (below_drewN HB.out _), E⟩
              case measure => simp [intOf]; omega
    · have E := hide (VA.out ⟨⟨by omega, by omega⟩, fun i hi => HN.out i (by omega)⟩)
      have d1 : decide (k < l.length) = false := decide_eq_false hlt
      go_wp2
      go_ret
      exact ⟨ret_bool E.out.symm, HB.out⟩
end Go.Proofs.YtdcdfjinbieblaaGreatDoor
