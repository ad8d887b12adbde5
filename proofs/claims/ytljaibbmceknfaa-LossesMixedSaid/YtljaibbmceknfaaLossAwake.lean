/- The example of the chapter: awake returns true; nothing that was there is turned. -/
import Derived.Test.YtljaibbmceknfaaLossStep2
namespace Go.Proofs.Ytljaibbmceknfaa
open Go.RowKit

def exC : Cls := ⟨⟨#[103, 97, 114, 100, 101, 110]⟩, 250, 100, 400, 100⟩
theorem ex_valid : validSt exC Sto.zero = true := by decide +kernel
theorem ex_valid2 : validSt exC ⟨100, 360⟩ = true := by decide +kernel
theorem ex_e : outE exC Sto.zero 1000 3600 = 0 := by decide +kernel
theorem ex_n : outN exC Sto.zero 1000 3600 = 600000 := by decide +kernel
theorem ex_w : (outS exC Sto.zero 1000 3600).wt = 100 := by decide +kernel
theorem ex_h : (outS exC Sto.zero 1000 3600).he = 360 := by decide +kernel
theorem ex_s : outS exC Sto.zero 1000 3600 = ⟨100, 360⟩ := by
  have h1 := ex_w
  have h2 := ex_h
  cases h : outS exC Sto.zero 1000 3600 with
  | mk a b => rw [h] at h1 h2; simp only at h1 h2; rw [h1, h2]
theorem ex_nm : exC.nm.size ≤ maxLen := by unfold maxLen; decide
abbrev exVal : Value := .agg #[.string ⟨#[103, 97, 114, 100, 101, 110]⟩, .int .i64 250, .int .i64 100, .int .i64 400, .int .i64 100]
theorem Step_ex (w : World) : Calls Try.prog 12 #[exVal, .agg #[.int .i64 0, .int .i64 0], .int .i64 1000, .int .i64 3600] w
      fun e w' => e = .returned (.tuple #[.agg #[.int .i64 100, .int .i64 360], .int .i64 600000, .int .i64 0]) ∧ Below w.heap.size w w' := by
  have h := Step_any exC Sto.zero 1000 3600 w ex_nm
  rw [ex_e, ex_n, ex_s] at h
  exact h
theorem Valid_ex (w : World) : Calls Try.prog 16 #[exVal, .agg #[.int .i64 100, .int .i64 360]] w
      fun e w' => e = .returned (.bool true) ∧ Below w.heap.size w w' := by
  have h := validStore_any exC ⟨100, 360⟩ w ex_nm
  rw [ex_valid2] at h
  exact h
set_option maxHeartbeats 400000 in
theorem example_any (w : World) : Calls Try.prog 35 #[] w fun e w' => e = .returned exVal ∧ Below w.heap.size w w' := by
  go_enter Try.func35, Try.ntmps35
  go_wp2
  go_returns
  exact ⟨rfl, by go_grown⟩
set_option maxHeartbeats 2000000 in
theorem awake_any (w : World) : Calls Try.prog 10 #[] w fun e w' => e = .returned (.bool true) ∧ Below w.heap.size w w' := by
  go_enter Try.func10, Try.ntmps10
  go_wp2_with fail
  refine (example_any _).mono ?_
  rintro e w1 ⟨rfl, hb1⟩
  go_wp2_with fail
  refine (Step_ex _).mono ?_
  rintro e w2 ⟨rfl, hb2⟩
  have HB : Hid (Below w.heap.size w w2) := hide (hb1.trans (hb2.mono hb1.size))
  clear hb1 hb2
  go_wp2_with fail
  have E3 := Blk.new w2 25 #[.int .i64 100, .int .i64 360]
  have hg1 := HB.out.alloc HB.out.size (.cells #[.int .i64 100, .int .i64 360] 25)
  generalize hbs : w2.heap.size = bs at E3
  generalize w2.alloc (.cells #[.int .i64 100, .int .i64 360] 25) = W at *
  have hbs' := hide hbs
  clear hbs HB
  have HG := hide hg1
  clear hg1
  have hx := E3.cell
  have hlt := E3.lt
  go_region_held3 (fun w' => w'.cell? ⟨bs, 0, none⟩ = some (.int .i64 100) ∧ w'.cell? ⟨bs, 1, none⟩ = some (.int .i64 360)) (go_keep) (first | (go_at_call 35; refine (example_any _).mono ?_; rintro e w' ⟨rfl, hb1⟩; have hk1 := keeps hb1) | (go_at_call 16; refine (Valid_ex _).mono ?_; rintro e w' ⟨rfl, hb2⟩; have hk2 := keeps hb2))
  all_goals go_wp2
  go_ret
  exact ⟨rfl, below_via (below_via HG.out.drew HG.out.size hb1) (Nat.le_trans HG.out.size hb1.size) hb2⟩
def smallB (c : Cls) : Bool := decide (c.nm.size ≤ 60)
set_option maxHeartbeats 400000 in
theorem small_any (c : Cls) (w : World) (hnm : c.nm.size ≤ maxLen) : Calls Try.prog 11 #[c.val] w fun e w' => e = .returned (.bool (smallB c)) ∧ Below w.heap.size w w' := by
  unfold maxLen at hnm
  go_enter Try.func11, Try.ntmps11
  go_wp2
  go_ret
  refine ⟨ret_bool ?_, by go_grown⟩
  rw [smallB, Bool.eq_iff_iff]; simp; omega
end Go.Proofs.Ytljaibbmceknfaa
