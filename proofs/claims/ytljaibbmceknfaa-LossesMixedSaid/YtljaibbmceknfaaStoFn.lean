/- slices.ContainsFunc at stores, with the law's own function: none of equal stores is another one. -/
import Derived.Test.YtljaibbmceknfaaMixedP
namespace Go.Proofs.Ytljaibbmceknfaa
open Go.RowKit

theorem ClsSl.of_cells {W : World} {g : Nat} {c : Cls} (hg : g < W.heap.size) (hnm : c.nm.size ≤ maxLen) (h0 : W.cell? ⟨g, 0, none⟩ = some (.string c.nm)) (h1 : W.cell? ⟨g, 1, none⟩ = some (.int .i64 c.se)) (h2 : W.cell? ⟨g, 2, none⟩ = some (.int .i64 c.we))
    (h3 : W.cell? ⟨g, 3, none⟩ = some (.int .i64 c.ro)) (h4 : W.cell? ⟨g, 4, none⟩ = some (.int .i64 c.dr)) : ClsSl W (some ⟨g, 0, none⟩) [c] := by
  refine ⟨⟨by unfold maxLen; simp, fun i hi => ?_⟩, fun _ => ⟨g, 0, rfl, hg, fun i hi => ?_⟩⟩
  · have : i = 0 := by simpa using hi
    subst this; exact hnm
  · have : i = 0 := by simpa using hi
    subst this; exact ⟨h0, h1, h2, h3, h4⟩
theorem IntSl.of_cells {W : World} {g : Nat} {x : Int} (hg : g < W.heap.size) (hx : -9223372036854775808 ≤ x ∧ x ≤ 9223372036854775807) (h0 : W.cell? ⟨g, 0, none⟩ = some (.int .i64 x)) : IntSl W (some ⟨g, 0, none⟩) [x] := by
  refine ⟨⟨by simp, fun i hi => ?_⟩, fun _ => ⟨g, 0, rfl, hg, fun i hi => ?_⟩⟩
  · have : i = 0 := by simpa using hi
    subst this; exact hx
  · have : i = 0 := by simpa using hi
    subst this; exact h0
theorem StoSl.of_cells {W : World} {g : Nat} {s : Sto} (hg : g < W.heap.size) (h0 : W.cell? ⟨g, 0, none⟩ = some (.int .i64 s.wt)) (h1 : W.cell? ⟨g, 1, none⟩ = some (.int .i64 s.he)) : StoSl W (some ⟨g, 0, none⟩) [s] := by
  refine ⟨by unfold maxLen; simp, fun _ => ⟨g, 0, rfl, hg, fun i hi => ?_⟩⟩
  have : i = 0 := by simpa using hi
  subst this; exact ⟨h0, h1⟩

set_option maxHeartbeats 400000 in
theorem mixedfn_any (v : Sto) (b : Nat) (w : World) (hb : b < w.heap.size) (h0 : w.cell? ⟨b, 0, none⟩ = some (.int .i64 v.wt)) (h1 : w.cell? ⟨b, 1, none⟩ = some (.int .i64 v.he)) :
    Calls Try.prog 24 #[v.val, .pointer (some ⟨b, 0, none⟩)] w fun e w' => e = .returned (.bool false) ∧ Below w.heap.size w w' := by
  go_enter Try.func24, Try.ntmps24
  go_wp2
  go_ret
  exact ⟨by simp, by go_grown⟩
set_option maxHeartbeats 1000000 in
theorem idxS_no (n : Nat) (v : Sto) (A : Option Addr) (cap bs : Nat) (w : World) (hn : n ≤ 16) (hl : StoSl w A (List.replicate n v)) (h0 : w.cell? ⟨bs, 0, none⟩ = some (.int .i64 v.wt)) (h1 : w.cell? ⟨bs, 1, none⟩ = some (.int .i64 v.he)) :
    Calls Try.prog 46 #[.slice A n cap, .func (.func 24) #[] #[.pointer (some ⟨bs, 0, none⟩)]] w
      fun e w' => e = .returned (.int .i64 (-1)) ∧ Below w.heap.size w w' := by
  have hbs : bs < w.heap.size := lt_of_cell h0
  have H := hide hl
  clear hl
  have H0 := hide h0
  have H1 := hide h1
  clear h0 h1
  go_enter Try.func46, Try.ntmps46
  go_wp2
  go_loopw [8] (fun v8 wr => ∃ k : Nat, k ≤ n ∧ v8 = .int .i64 k ∧ Below w.heap.size w wr) (fun v8 _ => n - (intOf v8).toNat)
  case atStart => exact ⟨0, Nat.zero_le _, rfl, Below.refl _ _⟩
  case round =>
    obtain ⟨k, hk, rfl, hb⟩ := hrel
    have hsz := hb.size
    by_cases hlt : k < n
    · obtain ⟨b, off, rfl, hbl, hat⟩ := (H.out.below hb).2 (by simp; omega)
      have hk' := hat k (by simpa using hlt)
      rw [List.getElem_replicate] at hk'
      obtain ⟨c0, c1⟩ := hk'
      clear hat
      have hc := (hb.cell (p := ⟨bs, 0, none⟩) hbs).trans H0.out
      have hd := (hb.cell (p := ⟨bs, 1, none⟩) hbs).trans H1.out
      have Hb := hide hb
      clear hb
      go_wp2_with (go_at_call 24; refine (mixedfn_any v bs _ (by omega) hc hd).mono ?_; rintro e w' ⟨rfl, hb1⟩)
      go_roundw
      case rel => exact ⟨k + 1, by omega, by go_num, Hb.out.trans (hb1.mono hsz)⟩
      case measure => simp [intOf]; omega
    · have Hb := hide hb
      clear hb
      go_wp2
      go_ret
      exact ⟨rfl, Hb.out⟩
set_option maxHeartbeats 1000000 in
theorem contS_no (n : Nat) (v : Sto) (A : Option Addr) (cap bs : Nat) (w : World) (hn : n ≤ 16) (hl : StoSl w A (List.replicate n v)) (h0 : w.cell? ⟨bs, 0, none⟩ = some (.int .i64 v.wt)) (h1 : w.cell? ⟨bs, 1, none⟩ = some (.int .i64 v.he)) :
    Calls Try.prog 23 #[.slice A n cap, .func (.func 24) #[] #[.pointer (some ⟨bs, 0, none⟩)]] w
      fun e w' => e = .returned (.bool false) ∧ Below w.heap.size w w' := by
  go_enter Try.func23, Try.ntmps23
  go_wp2_with fail
  refine (idxS_no n v A cap bs _ hn hl h0 h1).mono ?_
  rintro e w' ⟨rfl, hb⟩
  go_wp2
  go_ret
  exact ⟨rfl, hb⟩
theorem cells7_below {W W' : World} (hb : Below W.heap.size W W') {b off g : Nat} {u0 u1 u2 u3 u4 y0 y1 : Value}
    (h : W.cell? ⟨b, off, none⟩ = some u0 ∧ W.cell? ⟨b, off + 1, none⟩ = some u1 ∧ W.cell? ⟨b, off + 2, none⟩ = some u2 ∧ W.cell? ⟨b, off + 3, none⟩ = some u3 ∧ W.cell? ⟨b, off + 4, none⟩ = some u4 ∧ W.cell? ⟨g, 0, none⟩ = some y0 ∧ W.cell? ⟨g, 1, none⟩ = some y1) :
    W'.cell? ⟨b, off, none⟩ = some u0 ∧ W'.cell? ⟨b, off + 1, none⟩ = some u1 ∧ W'.cell? ⟨b, off + 2, none⟩ = some u2 ∧ W'.cell? ⟨b, off + 3, none⟩ = some u3 ∧ W'.cell? ⟨b, off + 4, none⟩ = some u4 ∧ W'.cell? ⟨g, 0, none⟩ = some y0 ∧ W'.cell? ⟨g, 1, none⟩ = some y1 := by
  have k := keeps hb
  obtain ⟨h0, h1, h2, h3, h4, h5, h6⟩ := h
  exact ⟨k _ _ _ h0, k _ _ _ h1, k _ _ _ h2, k _ _ _ h3, k _ _ _ h4, k _ _ _ h5, k _ _ _ h6⟩
end Go.Proofs.Ytljaibbmceknfaa
