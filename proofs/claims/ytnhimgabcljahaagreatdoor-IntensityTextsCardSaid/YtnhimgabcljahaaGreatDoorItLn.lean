/- The program's line of a table of intensities: a word and numbers; slices.Clone and slices.Insert at integers in memory of the call's own; nothing that was there is turned. -/
import Derived.Test.YtnhimgabcljahaaGreatDoorItTxP
import Derived.Test.YtnhimgabcljahaaGreatDoorRtIns
import Derived.Test.YtnhimgabcljahaaGreatDoorOwn3
namespace Go.Proofs.YtnhimgabcljahaaGreatDoor
open Go Go.RowKit

set_option maxRecDepth 100000 in
set_option maxHeartbeats 2000000 in
theorem line_any (wd : List UInt8) (l : List Int) (A : Option Addr) (cap : Nat) (w : World) (hl : IntSl w A l) (ht : TxtW w) (hn : ∀ n ∈ l, numR n) (hw : wd.length ≤ 100) (hs : l.length ≤ 1000) :
    Calls Tryz.prog 26 #[strV wd, .slice A l.length cap] w (RetV (strV (ln wd l ++ [10])) w) := by
  have H := hide hl
  have HT := hide ht
  have HN := hide hn
  have LL := hide (fun k => ln_len wd (l.take k) (fun n h => HN.out n (List.mem_of_mem_take h)))
  have T0 : Hid (wd = ln wd (l.take 0)) := hide (by simp [ln])
  clear hl ht hn
  go_enter Tryz.func26, Tryz.ntmps26
  go_wp2
  go_loopw [0, 9] (fun v0 v9 wr => ∃ k : Nat, k ≤ l.length ∧ v9 = .int .i64 k ∧ v0 = strV (ln wd (l.take k)) ∧ Hid (Below w.heap.size w wr)) (fun _ v9 _ => l.length - (intOf v9).toNat)
  case atStart => exact ⟨0, Nat.zero_le _, rfl, by rw [← T0.out], hide (Below.refl _ _)⟩
  case round =>
    obtain ⟨k, hk, rfl, rfl, HB⟩ := hrel
    have zl := LL.out k
    rw [List.length_take] at zl
    by_cases hlt : k < l.length
    · obtain ⟨b, off, rfl, hbl, hat⟩ := (H.out.below HB.out).2 (by omega)
      have c0 := hat k hlt
      have nr := HN.out l[k] (List.getElem_mem hlt)
      have il := itoa_len9 nr
      have NX : Hid (ln wd (l.take k) ++ 32 :: Lib.itoa l[k] = ln wd (l.take (k + 1))) := hide (by rw [List.take_succ_eq_append_getElem hlt, ln_append])
      obtain ⟨n1, n2⟩ := nr
      have zl2 : (ln wd (l.take k)).length ≤ 23000 := by omega
      clear hat zl
      generalize l[k] = n at *
      have IT := hide (fun W h => itoaL n W (by omega) (by omega) h)
      have ht2 := hide (HT.out.below HB.out)
      generalize ln wd (l.take k) = z at *
      generalize Lib.itoa n = it at *
      have cc : (⟨#[32]⟩ : ByteArray) ++ ⟨it.toArray⟩ = ⟨(32 :: it).toArray⟩ := ba_append [32] it
      have k1 : (⟨z.toArray⟩ : ByteArray) ++ ⟨(32 :: it).toArray⟩ = ⟨(z ++ 32 :: it).toArray⟩ := ba_append z (32 :: it)
      have l1 : ¬ 9223372036854775807 < 1 + it.length := by omega
      have l2 : ¬ 9223372036854775807 < z.length + (it.length + 1) := by omega
      go_wp2_with fail
      refine (IT.out _ ht2.out).mono ?_
      rintro e w4 ⟨rfl, hb⟩
      have HB4 := hide (below_via HB.out HB.out.size hb)
      clear hb c0
      go_wp2
      go_roundw
      case rel => exact ⟨k + 1, by omega, by go_num, by rw [← NX.out], HB4⟩
      case measure => simp [intOf]; omega
    · obtain rfl : k = l.length := by omega
      rw [List.take_length] at *
      generalize ln wd l = z at *
      have k1 : (⟨z.toArray⟩ : ByteArray) ++ ⟨#[10]⟩ = ⟨(z ++ [10]).toArray⟩ := ba_append z [10]
      have l2 : ¬ 9223372036854775807 < z.length + 1 := by omega
      go_wp2
      go_ret
      exact ⟨rfl, HB.out⟩
/-- a copy in new memory, known whole -/
def CloneG (l : List Int) (w : World) (e : Ending) (w' : World) : Prop :=
  ∃ (g c : Nat) (cur : List Value), e = .returned (.slice (some ⟨g, 0, none⟩) l.length c) ∧ w.heap.size ≤ g ∧ Blk w' g 3 cur.toArray ∧ cur.length = c ∧ cur.take l.length = l.map (Value.int .i64) ∧ l.length ≤ c ∧ c ≤ maxLen ∧ Below w.heap.size w w'
theorem cloneG_any (l : List Int) (A : Option Addr) (c : Nat) (w : World) (hl : IntSl w A l) (h0 : 0 < l.length) (hn : l.length ≤ 1000) :
    Calls Tryz.prog 25 #[.slice A l.length c] w (CloneG l w) := by
  obtain ⟨b, off, rfl, hbl, hat⟩ := hl.2 h0
  refine (Tryz.slices_Clone_int b off l.length c l w (Nat.le_refl _) (by omega) (fun j hj => by rw [hat j hj]; simp [hj])).mono ?_
  rintro e w' ⟨v, rfl, h1, _, hb⟩
  rw [List.take_length] at h1
  rcases h1.2 with ⟨_, h⟩ | ⟨g, cp, cur, rfl, hg, hh, hn', hm, hsz, htk⟩
  · omega
  · exact ⟨g, cp, cur.toList, rfl, hg, by simpa [Blk] using hh, by simpa using hsz, by simpa using htk, hn', hm, hb⟩
/-- an integer more at the head -/
def InsH (l : List Int) (w : World) (B : Nat) (e : Ending) (w' : World) : Prop :=
  ∃ (A : Option Addr) (c : Nat), e = .returned (.slice A l.length c) ∧ IntSl w' A l ∧ Below B w w'
theorem insH_any (B : Nat) (l : List Int) (g c vb : Nat) (cur : List Value) (x : Int) (w : World) (h0 : 0 < l.length) (hn : l.length ≤ 999) (hg : Blk w g 3 cur.toArray) (hc : cur.length = c) (ht : cur.take l.length = l.map (Value.int .i64)) (hlc : l.length ≤ c) (hcm : c ≤ maxLen)
    (hv : Blk w vb 3 #[.int .i64 x]) (hne : vb ≠ g) (hB : B ≤ g) (hx : numR x) (hr : ∀ n ∈ l, numR n) :
    Calls Tryz.prog 27 #[.slice (some ⟨g, 0, none⟩) l.length c, .int .i64 0, .slice (some ⟨vb, 0, none⟩) 1 1] w (InsH (x :: l) w B) := by
  refine (insert_any B l.length c 0 g vb (l.map (Value.int .i64)) cur (.int .i64 x) w h0 (by simp) (by omega) hlc hcm hg hc ht (fun v hv => by obtain ⟨n, _, rfl⟩ := List.mem_map.1 hv; rfl) rfl hv hne hB (by have := hg.lt; omega)).mono ?_
  rintro e w' ⟨hb, g', cap, rfl, hg1, hg2, _, hat, _⟩
  refine ⟨some ⟨g', 0, none⟩, cap, rfl, ⟨⟨by simp; omega, fun i hi => ?_⟩, fun _ => ⟨g', 0, rfl, hg2, fun i hi => ?_⟩⟩, hb⟩
  · have : (x :: l)[i] ∈ x :: l := List.getElem_mem hi
    rcases List.mem_cons.1 this with h | h
    · have := hx.1; have := hx.2; omega
    · have h1 := hr _ h; have := h1.1; have := h1.2; omega
  · rw [Nat.zero_add]
    refine hat i _ ?_
    cases i with
    | zero => simp
    | succ i => simp at hi; simp [hi]
end Go.Proofs.YtnhimgabcljahaaGreatDoor
