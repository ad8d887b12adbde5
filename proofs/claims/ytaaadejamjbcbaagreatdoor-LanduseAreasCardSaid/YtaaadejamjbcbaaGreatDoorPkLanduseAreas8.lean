/- The program's Check of too big surfaces, and Valid: whether a surface is valid; nothing that was there is turned. -/
import Derived.Test.YtaaadejamjbcbaaGreatDoorPkLanduseAreas7
namespace Go.Proofs.YtaaadejamjbcbaaGreatDoor
open Go Go.RowKit

theorem big_vM {m : Msh} (h : smB m = false) : vM m = false := by simp [vM, h]
set_option maxRecDepth 100000 in
set_option maxHeartbeats 1000000 in
theorem mscheck_big (m : Msh) (a : MshA) (w : World) (h : smB m = false) :
    Calls Tryz.prog 43 #[m.val a] w fun e w' => e = .returned (.tuple #[.slice none 0 0, .int .i64 4]) ∧ Below w.heap.size w w' := by
  obtain ⟨ss, fs⟩ := m
  obtain ⟨A1, c1, A2, c2⟩ := a
  have X := (Own.start w).alloc #[.slice A1 ss.length c1, .slice A2 fs.length c2] 25
  have hr := X.r1
  have SM := hide (fun W => mssmall_any ⟨ss, fs⟩ ⟨A1, c1, A2, c2⟩ W)
  rw [h] at SM
  unfold RetW at SM
  clear h
  go_enter Tryz.func43, Tryz.ntmps43
  go_wp2_with fail
  refine (SM.out _).mono ?_
  rintro e w1 ⟨rfl, hb⟩
  replace X := X.to hb
  clear hr hb
  have XB := X.1
  go_wp2
  exact bodyPost_ret (v := .tuple #[.slice none 0 0, .int .i64 4]) (by simp [results, Tryz.results43, go_sem]) rfl ⟨rfl, XB⟩
set_option maxHeartbeats 1000000 in
theorem msvalid_any (m : Msh) (a : MshA) (w : World) (hm : MshSl w m a) (ht : Lib.TabIs Tryz.prog w "internal/strconv.uint64pow10" .u64 Lib.pow10Tab) : Calls Tryz.prog 22 #[m.val a] w (RetW (.bool (vM m)) w) := by
  have X := (Own.start w).alloc (m.cells a) 25
  have hr := X.r1
  have HM := hide (hm.below X.1)
  have HT := hide (tab_below ht X.1)
  cases h : smB m with
  | false =>
    have CK := hide (fun W => mscheck_big m a W h)
    rw [big_vM h]
    clear h hm ht
    go_enter Tryz.func22, Tryz.ntmps22
    go_wp2_with fail
    refine (CK.out _).mono ?_
    rintro e w1 ⟨rfl, hb⟩
    replace X := X.to hb
    clear hr hb
    have XB := X.1
    go_wp2
    go_ret
    exact ⟨rfl, XB⟩
  | true =>
    obtain ⟨ss, fs⟩ := m
    obtain ⟨A1, c1, A2, c2⟩ := a
    have hs : ss.length ≤ 2000 ∧ fs.length ≤ 4000 := by simpa [smB] using h
    have CK := hide (mscheck_any ss fs A1 A2 c1 c2 _ HM.out hs.1 hs.2 HT.out)
    clear h hm ht hs
    go_enter Tryz.func22, Tryz.ntmps22
    go_wp2_with fail
    refine CK.out.mono ?_
    rintro e w1 ⟨⟨A, N, c, rfl, hN⟩, hb⟩
    replace X := X.to hb
    clear hr hb CK HM HT
    have XB := X.1
    by_cases h0 : N = 0
    · have hv := hide (hN.1 h0)
      subst h0
      clear hN
      go_wp2
      go_ret
      exact ⟨ret_bool hv.out.symm, XB⟩
    · have hv : Hid (vM ⟨ss, fs⟩ = false) := hide (by
        cases e : vM ⟨ss, fs⟩ with
        | true => exact absurd (hN.2 e) h0
        | false => rfl)
      have q : ((N : Int) == 0) = false := beq_eq_false_iff_ne.2 (by omega)
      clear hN h0
      go_wp2
      go_ret
      exact ⟨ret_bool hv.out.symm, XB⟩
end Go.Proofs.YtaaadejamjbcbaaGreatDoor
