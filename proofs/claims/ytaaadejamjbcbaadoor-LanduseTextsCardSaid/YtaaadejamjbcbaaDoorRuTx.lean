/- The reference's Text of a valid list of classes: the text that is specified; nothing that was there is turned. -/
import Derived.Test.YtaaadejamjbcbaaDoorLuTx
import Derived.Test.YtaaadejamjbcbaaDoorFmt
namespace Go.Proofs.YtaaadejamjbcbaaDoor
open Go Go.RowKit

theorem ba_append2 (a : List UInt8) (s : ByteArray) : (⟨a.toArray⟩ : ByteArray) ++ s = ⟨(a ++ s.data.toList).toArray⟩ := by
  apply ByteArray.ext
  rw [ByteArray.data_append]
  simp
set_option maxRecDepth 100000 in
set_option maxHeartbeats 4000000 in
theorem rutext_any (l : List Cls) (A : Option Addr) (cap : Nat) (w : World) (hl : ClsSl w A l) (hv : validB l = true) :
    Calls Tryd.prog 22 #[.slice A l.length cap] w (RetV (strV (txL l)) w) := by
  have hlen : l.length ≤ 9223372036854775807 := hl.1.1
  have H := hide hl
  clear hl
  have RG := hide (valid_right hv)
  have L16 : l.length ≤ 16 := (of_validB hv).2.1
  clear hv
  go_enter Tryd.func22, Tryd.ntmps22
  go_wp2
  go_loopw [3, 4] (fun v3 v4 wr => ∃ k : Nat, k ≤ l.length ∧ v4 = .int .i64 k ∧ v3 = strV (txL (l.take k)) ∧ Hid (Below w.heap.size w wr)) (fun _ v4 _ => l.length - (intOf v4).toNat)
  case atStart => exact ⟨0, Nat.zero_le _, rfl, rfl, hide (Below.refl _ _)⟩
  case round =>
    obtain ⟨k, hk, rfl, rfl, HB⟩ := hrel
    by_cases hlt : k < l.length
    · obtain ⟨wo, rfl⟩ : ∃ wo : World, wo = wr := ⟨_, rfl⟩
      have HS := hide (H.out.below HB.out)
      obtain ⟨b, off, rfl, hbl, hat⟩ := HS.out.2 (by omega)
      obtain ⟨c0, c1, c2, c3, c4⟩ := hat k hlt
      have rc := RG.out l[k] (List.getElem_mem hlt)
      have la : (txL (l.take k)).length ≤ 110 * k := by
        have := txL_len (l := l.take k) (fun c h => RG.out c (List.mem_of_mem_take h))
        rw [List.length_take] at this
        omega
      have FIN := hide (txL_take hlt)
      have ln := name_len (of_rightB rc).1
      have NB := hide (fun j => nm_bd rc j)
      have NL := hide (fun j hj => txN_len rc j hj)
      have NS := hide (fun j hj => txN_step l[k] (j := j) hj)
      have N4 := hide (txN_four l[k])
      clear hat rc
      generalize l[k] = c at *
      generalize hacc : txL (l.take k) = acc at *
      clear hacc
      have X := ((show Own w wo [] from ⟨HB.out, fun _ h => by cases h⟩).alloc #[.string c.nm, .int .i64 c.se, .int .i64 c.we, .int .i64 c.ro, .int .i64 c.dr] 54).alloc #[.int .i64 c.se, .int .i64 c.we, .int .i64 c.ro, .int .i64 c.dr] 3
      rw [World.size_alloc] at X
      have XH := hide X
      have hr := X.r2
      have cc := ba_append2 acc c.nm
      have ln2 : c.nm.size ≤ 20 := by simpa using ln
      have l1 : ¬ 9223372036854775807 < acc.length + c.nm.size := by omega
      have xl : (acc ++ c.nm.data.toList).length ≤ 110 * k + 20 := by rw [List.length_append]; omega
      have x0 : Hid (acc ++ c.nm.data.toList = acc ++ c.nm.data.toList ++ txN c 0) := hide (by rw [show txN c 0 = [] from rfl, List.append_nil])
      clear X
      generalize hy : acc ++ c.nm.data.toList = y at *
      have HY := hide hy
      clear hy
      go_wp2
      go_loopw [3, 7] (fun v3 v7 wr => ∃ j : Nat, j ≤ 4 ∧ v7 = .int .i64 j ∧ v3 = strV (y ++ txN c j) ∧ Hid (Own w wr [(wo.heap.size + 1, 3, #[.int .i64 c.se, .int .i64 c.we, .int .i64 c.ro, .int .i64 c.dr])])) (fun _ v7 _ => 4 - (intOf v7).toNat)
      case atStart => exact ⟨0, by omega, rfl, by rw [← x0.out], hide ⟨XH.out.1, fun x hx => XH.out.2 x (by simp at hx; simp [hx])⟩⟩
      case round =>
        obtain ⟨j, hj, rfl, rfl, HO⟩ := hrel
        by_cases hj4 : j < 4
        · have cell : wr.cell? ⟨wo.heap.size + 1, 0 + j, none⟩ = some (.int .i64 ((nmbs c).getD j 0)) := by
            rw [HO.out.r1.1]
            match j, hj4 with
            | 0, _ => rfl
            | 1, _ => rfl
            | 2, _ => rfl
            | 3, _ => rfl
          rw [Nat.zero_add] at cell
          have nb := NB.out j
          have nl := NL.out j (by omega)
          have ns := hide (NS.out j hj4)
          have il := itoa_len nb
          generalize (nmbs c).getD j 0 = n at *
          obtain ⟨n, rfl⟩ : ∃ m : Nat, n = (m : Int) := ⟨n.toNat, by omega⟩
          have FM := hide (fun W => rfmt_any n W (by omega))
          have zl : (y ++ txN c j).length ≤ 110 * k + 20 + 88 := by rw [List.length_append]; omega
          have NX : Hid (y ++ txN c j ++ 32 :: Lib.itoa n = y ++ txN c (j + 1)) := hide (by rw [ns.out]; simp)
          clear ns
          generalize y ++ txN c j = z at *
          generalize Lib.itoa (n : Int) = it at *
          have k1 : (⟨z.toArray⟩ : ByteArray) ++ ⟨#[32]⟩ = ⟨(z ++ [32]).toArray⟩ := ba_append z [32]
          have k2 : (⟨(z ++ [32]).toArray⟩ : ByteArray) ++ ⟨it.toArray⟩ = ⟨(z ++ [32] ++ it).toArray⟩ := ba_append _ it
          have m1 : ¬ 9223372036854775807 < z.length + 1 := by omega
          have m2 : ¬ 9223372036854775807 < z.length + 1 + it.length := by omega
          clear c0 c1 c2 c3 c4 hr
          go_wp2_with fail
          refine (FM.out _).mono ?_
          rintro e w4 ⟨rfl, hb4⟩
          have HO4 := hide (HO.out.to hb4)
          clear hb4 cell
          go_wp2
          go_roundw
          case rel => exact ⟨j + 1, by omega, by go_num, by rw [← NX.out], HO4⟩
          case measure => simp [intOf]; omega
        · obtain rfl : j = 4 := by omega
          have nl := NL.out 4 (by omega)
          have zl : (y ++ txN c 4).length ≤ 110 * k + 20 + 88 := by rw [List.length_append]; omega
          have FN2 : Hid (y ++ txN c 4 ++ [10] = txL (l.take (k + 1))) := hide (by rw [FIN.out, ← HY.out, List.append_assoc acc, N4.out, List.append_assoc])
          generalize y ++ txN c 4 = z at *
          have k1 : (⟨z.toArray⟩ : ByteArray) ++ ⟨#[10]⟩ = ⟨(z ++ [10]).toArray⟩ := ba_append z [10]
          have m1 : ¬ 9223372036854775807 < z.length + 1 := by omega
          clear c0 c1 c2 c3 c4 hr
          go_wp2
          go_roundw
          case rel => exact ⟨k + 1, by omega, by go_num, by rw [← FN2.out], hide HO.out.1⟩
          case measure => simp [intOf]; omega
    · obtain rfl : k = l.length := by omega
      go_wp2
      go_ret
      exact ⟨by rw [List.take_length]; rfl, HB.out⟩
end Go.Proofs.YtaaadejamjbcbaaDoor
