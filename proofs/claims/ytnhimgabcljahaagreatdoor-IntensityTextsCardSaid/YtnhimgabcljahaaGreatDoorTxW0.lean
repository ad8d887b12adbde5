/- Texts: strconv.Itoa and strconv.Atoi at lists of bytes, where the variables that they read are as laid; nothing that was there is turned. -/
import Derived.Test.YtnhimgabcljahaaGreatDoorTxT
import Derived.Lib.AtoiErrMem
import Derived.Stop.LaidErr
import Derived.Shelf.Vars
namespace Go.Proofs.YtnhimgabcljahaaGreatDoor
open Go Go.RowKit

/-- what the texts' functions read of the library's variables -/
def TxtW (w : World) : Prop := Lib.TabIs Tryz.prog w "internal/strconv.uint64pow10" .u64 Lib.pow10Tab ∧ (∃ m, w.cell? ⟨0, 0, none⟩ = some (.int .i64 m)) ∧
  (∃ ev, w.cell? ⟨1, 0, none⟩ = some ev ∧ (ev = .nilIface ∨ ∃ te pe, ev = .iface te pe)) ∧ (∃ ev, w.cell? ⟨2, 0, none⟩ = some ev ∧ (ev = .nilIface ∨ ∃ te pe, ev = .iface te pe))
theorem TxtW.below {w w' : World} (h : TxtW w) (hb : Below w.heap.size w w') : TxtW w' :=
  ⟨tab_below h.1 hb, by obtain ⟨m, hm⟩ := h.2.1; exact ⟨m, keeps hb _ _ _ hm⟩, by obtain ⟨ev, hm, p⟩ := h.2.2.1; exact ⟨ev, keeps hb _ _ _ hm, p⟩, by obtain ⟨ev, hm, p⟩ := h.2.2.2; exact ⟨ev, keeps hb _ _ _ hm, p⟩⟩
theorem itoaL (n : Int) (w : World) (h0 : -9223372036854775808 ≤ n) (h1 : n ≤ 9223372036854775807) (ht : TxtW w) : Calls Tryz.prog 39 #[.int .i64 n] w (RetV (strV (Lib.itoa n)) w) :=
  (Tryz.strconv_Itoa n h0 h1 w ht.1).mono fun e w' ⟨he, k, os, hw⟩ => ⟨he, by rw [hw]; exact Lib.below_grow _ _ (Nat.le_refl _) _ _⟩
/-- what Atoi returns, and whether without an error -/
def atV (l : List UInt8) : Int := match Lib.atoiAll l with | .ok v => v | .range => Lib.atoiSat l | _ => 0
def atB (l : List UInt8) : Bool := match Lib.atoiAll l with | .ok _ => true | _ => false
theorem at_ok {l : List UInt8} {v : Int} (h : Lib.atoiAll l = .ok v) : atV l = v ∧ atB l = true := by simp [atV, atB, h]
theorem atV_bd (l : List UInt8) : -9223372036854775808 ≤ atV l ∧ atV l ≤ 9223372036854775807 := by
  unfold atV
  split
  · rename_i v h; exact Lib.atoiAll_bounds h
  · exact Lib.atoiSat_bounds l
  · omega
def AtPost (v : Int) (b : Bool) (w : World) (e : Ending) (w' : World) : Prop := (∃ ev, e = .returned (.tuple #[.int .i64 v, ev]) ∧ (b = true → ev = .nilIface) ∧ (b = false → ∃ te pe, ev = .iface te pe)) ∧ Below w.heap.size w w'
theorem atoiL (l : List UInt8) (w : World) (hl : l.length ≤ 281474976710656) (ht : TxtW w) : Calls Tryz.prog 38 #[strV l] w (AtPost (atV l) (atB l) w) := by
  have hs : (⟨l.toArray⟩ : ByteArray).size = l.length := by simp [ByteArray.size]
  have hd : (⟨l.toArray⟩ : ByteArray).data.toList = l := by simp
  cases h : Lib.atoiAll l with
  | ok v =>
    refine (Tryz.strconv_Atoi_ok ⟨l.toArray⟩ (by rw [hs]; omega) v (by rw [hd]; exact h) w).mono fun e w' ⟨he, hw⟩ => ?_
    refine ⟨⟨.nilIface, ?_, fun _ => rfl, fun h' => ?_⟩, ?_⟩
    · rw [he, (at_ok h).1]
    · rw [(at_ok h).2] at h'; cases h'
    · rcases hw with rfl | ⟨t, rfl⟩
      · exact Below.refl _ _
      · exact Lib.bytesWorld_below _ _ _
  | range =>
    obtain ⟨ev, hv, hev⟩ := ht.2.2.2
    refine (Tryz.strconv_Atoi_range ⟨l.toArray⟩ (by rw [hs]; omega) (by rw [hd]; exact h) ev w hv hev).mono fun e w' ⟨N, he, _, _, hb⟩ => ?_
    exact ⟨⟨_, by rw [he, hd, show atV l = Lib.atoiSat l by simp [atV, h]], fun h' => by simp [atB, h] at h', fun _ => ⟨_, _, rfl⟩⟩, hb⟩
  | _ =>
    obtain ⟨ev, hv, hev⟩ := ht.2.2.1
    refine (Tryz.strconv_Atoi_syntax ⟨l.toArray⟩ (by rw [hs]; omega) (by rw [hd, h] <;> decide +kernel) ev w hv hev).mono fun e w' ⟨N, he, _, _, hb⟩ => ?_
    exact ⟨⟨_, by rw [he, show atV l = 0 by simp [atV, h]], fun h' => by simp [atB, h] at h', fun _ => ⟨_, _, rfl⟩⟩, hb⟩
end Go.Proofs.YtnhimgabcljahaaGreatDoor
