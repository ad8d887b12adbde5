/- Words of texts: slices of strings that read as lists; strings.Split at one byte, strings.CutSuffix at a line's end: what each returns; nothing that was there is turned. -/
import Derived.Test.YtnhimgabcljahaaGreatDoorTxW0
import Derived.Test.YtnhimgabcljahaaGreatDoorPtsP
import Derived.Test.YtnhimgabcljahaaGreatDoorLnsP
import Derived.Test.YtnhimgabcljahaaGreatDoorShelf4
import Derived.Test.YtnhimgabcljahaaGreatDoorOwn2
namespace Go.Proofs.YtnhimgabcljahaaGreatDoor
open Go Go.RowKit

/-- a slice of strings that reads as a list -/
def StrSl (w : World) (A : Option Addr) (l : List (List UInt8)) : Prop :=
  l.length ≤ 9223372036854775807 ∧ (0 < l.length → ∃ b off, A = some ⟨b, off, none⟩ ∧ b < w.heap.size ∧ ∀ i (h : i < l.length), w.cell? ⟨b, off + i, none⟩ = some (strV l[i]))
theorem StrSl.below {w w' : World} {A : Option Addr} {l : List (List UInt8)} (h : StrSl w A l) (hb : Below w.heap.size w w') : StrSl w' A l :=
  ⟨h.1, fun hl => by obtain ⟨b, off, e, hlt, hat⟩ := h.2 hl; exact ⟨b, off, e, Nat.lt_of_lt_of_le hlt hb.size, fun i hi => (hb.cell (p := ⟨b, off + i, none⟩) hlt).trans (hat i hi)⟩⟩
theorem StrSl.nil (w : World) (A : Option Addr) : StrSl w A [] := ⟨by simp, fun h => by simp at h⟩
theorem StrSl.of_blk {w : World} {g : Nat} {t : TypeId} {l : List (List UInt8)} (h : Blk w g t (l.map strV).toArray) (hl : l.length ≤ 9223372036854775807) : StrSl w (some ⟨g, 0, none⟩) l :=
  ⟨hl, fun _ => ⟨g, 0, rfl, h.lt, fun i hi => by rw [Nat.zero_add, h.cell]; simp [hi]⟩⟩
theorem StrSl.of_row {w : World} {base : Nat} {e : TypeId} {v : Value} {n : Nat} {l : List (List UInt8)} (h : w.ownsRow base e 1 v n (l.map strV)) (hb : l.length ≤ 9223372036854775807) : ∃ A c, v = .slice A l.length c ∧ StrSl w A l ∧ l.length ≤ c := by
  have hn : l.length = n := by have := h.1; simpa using this
  rcases h.2 with ⟨rfl, h0⟩ | ⟨g, cap, cur, rfl, hg, hcell, hnc, _, hsz, htake⟩
  · rw [h0] at hn
    have : l = [] := List.eq_nil_of_length_eq_zero hn
    subst this
    exact ⟨none, 0, rfl, StrSl.nil w none, by simp⟩
  · subst hn
    refine ⟨some ⟨g, 0, none⟩, cap, rfl, ⟨hb, fun _ => ⟨g, 0, rfl, (Array.getElem?_eq_some_iff.1 hcell).1, fun i hi => ?_⟩⟩, hnc⟩
    have hc := h.cells (g := g) rfl i (strV l[i]) (by simp [hi])
    have e : (⟨g, 0, none⟩ : Addr).add i = ⟨g, 0 + i, none⟩ := by unfold Addr.add; split <;> simp_all
    rw [e] at hc
    exact hc
theorem pts_length (c : UInt8) : ∀ l : List UInt8, (pts c l).length ≤ l.length + 1
  | [] => by simp [pts]
  | b :: r => by
    have := pts_length c r
    rw [pts]
    split
    · simp; omega
    · split
      · simp
      · rename_i h t e
        rw [e] at this
        simp at this ⊢
        omega
theorem pts_len {c : UInt8} : ∀ {l : List UInt8}, ∀ p ∈ pts c l, p.length ≤ l.length
  | [], p, h => by simp [pts] at h; simp [h]
  | b :: r, p, h => by
    have ih := fun p h => pts_len (c := c) (l := r) p h
    rw [pts] at h
    by_cases hb : b = c
    · rw [if_pos hb] at h
      rcases List.mem_cons.1 h with rfl | h
      · simp
      · have := ih p h; simp; omega
    · rw [if_neg hb] at h
      cases hp : pts c r with
      | nil => exact absurd hp (pts_ne c r)
      | cons q t =>
        rw [hp] at h ih
        rcases List.mem_cons.1 h with rfl | h
        · have := ih q (List.mem_cons_self ..); simp; omega
        · have := ih p (List.mem_cons_of_mem _ h); simp; omega
theorem lns_len {s : List UInt8} : ∀ x ∈ lns s, x.length ≤ s.length + 1 := fun x h => lnsOf_len (pts 10 s) s.length (fun p hp => pts_len p hp) x h
theorem lns_length (s : List UInt8) : (lns s).length ≤ s.length + 1 := by
  have key : ∀ ps : List (List UInt8), (lnsOf ps).length ≤ ps.length := by
    intro ps
    induction ps with
    | nil => simp [lnsOf]
    | cons p ps ih =>
      cases ps with
      | nil => rw [lnsOf]; split <;> simp
      | cons q r => rw [lnsOf]; simp at ih ⊢; exact ih
  exact Nat.le_trans (key _) (pts_length 10 s)
theorem body_len (x : List UInt8) : (bodyL x).length ≤ x.length := by unfold bodyL; split <;> simp
def SplPost (l : List (List UInt8)) (w : World) (e : Ending) (w' : World) : Prop := Below w.heap.size w w' ∧ ∃ A c, e = .returned (.slice A l.length c) ∧ StrSl w' A l ∧ l.length ≤ c
theorem split_any (l : List UInt8) (c : UInt8) (w : World) (hl : l.length < 4294967281) (ht : TxtW w) : Calls Tryz.prog 37 #[strV l, strV [c]] w (SplPost (pts c l) w) := by
  obtain ⟨m, hm⟩ := ht.2.1
  have hs : (⟨l.toArray⟩ : ByteArray).size = l.length := by simp [ByteArray.size]
  have hd : (⟨l.toArray⟩ : ByteArray).data.toList = l := by simp
  have e1 : (Lib.splitB ⟨[c].toArray⟩ 0 (Lib.countB ⟨l.toArray⟩ ⟨[c].toArray⟩) ⟨l.toArray⟩).map (·.data.toList) = pts c l := by
    rw [Lib.splitB_data]
    have := split_pts c l.length l (Nat.le_refl _)
    unfold Lib.split at this
    rw [← this]
  have e2 : (Lib.splitB ⟨[c].toArray⟩ 0 (Lib.countB ⟨l.toArray⟩ ⟨[c].toArray⟩) ⟨l.toArray⟩).map Value.string = (pts c l).map strV := by
    rw [← e1, List.map_map]
    exact List.map_congr_left fun x _ => (strV_data x).symm
  have e3 : Lib.countB ⟨l.toArray⟩ ⟨[c].toArray⟩ + 1 = (pts c l).length := by
    rw [← e1, List.length_map, Lib.splitB_all ⟨[c].toArray⟩ (by simp [ByteArray.size]) 0 _ _ rfl]
  refine (Tryz.strings_Split ⟨l.toArray⟩ ⟨[c].toArray⟩ m w (by rw [hs]; exact hl) hm (by simp [ByteArray.size])).mono fun e w' ⟨he, hw⟩ => ?_
  rw [e2] at hw
  rw [e3] at he
  subst hw
  exact ⟨(Below.refl _ _).alloc (Nat.le_refl _) _, _, _, he, StrSl.of_blk (Blk.new _ _ _) (by have := pts_length c l; omega), Nat.le_refl _⟩
theorem ba_take (l : List UInt8) (k : Nat) : (⟨l.toArray⟩ : ByteArray).extract 0 k = ⟨(l.take k).toArray⟩ := by
  apply ByteArray.ext
  rw [ByteArray.data_extract]
  apply Array.ext'
  simp
theorem ba_drop (l : List UInt8) (k : Nat) : (⟨l.toArray⟩ : ByteArray).extract k (⟨l.toArray⟩ : ByteArray).size = ⟨(l.drop k).toArray⟩ := by
  apply ByteArray.ext
  rw [ByteArray.data_extract]
  apply Array.ext'
  simp [ByteArray.size]
  rw [List.take_of_length_le (by simp)]
theorem end_len {x : List UInt8} (h : endB x = true) : 1 ≤ x.length := by
  unfold endB Lib.hasSuffix at h
  have := (List.isSuffixOf_iff_suffix.1 h).length_le
  simpa using this
set_option maxHeartbeats 400000 in
theorem scutSuf_any (l : List UInt8) (w : World) (hl : l.length ≤ 9223372036854775807) :
    Calls Tryz.prog 50 #[strV l, strV [10]] w fun e w' => e = .returned (.tuple #[strV (bodyL l), .bool (endB l)]) ∧ w = w' := by
  have hs : (⟨l.toArray⟩ : ByteArray).size = l.length := by simp [ByteArray.size]
  have S := hide (fun W => Tryz.stringslite_HasSuffix ⟨l.toArray⟩ ⟨#[10]⟩ W (by rw [hs]; exact hl))
  have eE : Lib.hasSuffix (⟨l.toArray⟩ : ByteArray).data.toList (⟨#[10]⟩ : ByteArray).data.toList = endB l := by simp [endB]
  rw [eE] at S
  rcases Bool.eq_false_or_eq_true (endB l) with h | h
  · have h1 := end_len h
    have eB : bodyL l = l.take (l.length - 1) := by unfold bodyL; rw [if_pos h]
    have EB := hide (And.intro eB (ba_take l (l.length - 1)))
    have i1 := IntWalk.i64_in ((l.length : Int) - 1) (by omega)
    have t1 : ((l.length : Int) - 1).toNat = l.length - 1 := by omega
    rw [h] at S
    rw [h]
    clear h eB eE hs
    go_enter Tryz.func50, Tryz.ntmps50
    go_wp2_with fail
    refine (S.out _).mono ?_
    rintro e w' ⟨rfl, rfl⟩
    go_wp2
    go_ret2
    exact ⟨by rw [EB.out.1]; show Ending.returned (.tuple #[.string _, _]) = _; rw [EB.out.2]; rfl, rfl⟩
  · have EB : Hid (bodyL l = l) := hide (by unfold bodyL; rw [if_neg (by rw [h]; simp)])
    rw [h] at S
    rw [h]
    clear h eE hs
    go_enter Tryz.func50, Tryz.ntmps50
    go_wp2_with fail
    refine (S.out _).mono ?_
    rintro e w' ⟨rfl, rfl⟩
    go_wp2
    go_ret2
    exact ⟨by rw [EB.out]; rfl, rfl⟩
set_option maxHeartbeats 400000 in
theorem cutSuf_any (l : List UInt8) (w : World) (hl : l.length ≤ 9223372036854775807) :
    Calls Tryz.prog 36 #[strV l, strV [10]] w fun e w' => e = .returned (.tuple #[strV (bodyL l), .bool (endB l)]) ∧ w = w' := by
  have S := hide (fun W => scutSuf_any l W hl)
  generalize bodyL l = b at *
  generalize endB l = t at *
  go_enter Tryz.func36, Tryz.ntmps36
  go_wp2_with fail
  refine (S.out _).mono ?_
  rintro e w' ⟨rfl, rfl⟩
  go_wp2
  go_ret2
  exact ⟨rfl, rfl⟩
end Go.Proofs.YtnhimgabcljahaaGreatDoor
