/- The reference's Run, and the program's Lost: what each returns; nothing that was there is turned. -/
import Derived.Test.YtljaibbmceknfaaRun
import Derived.Test.YtljaibbmceknfaaLossRef
namespace Go.Proofs.Ytljaibbmceknfaa
open Go.RowKit

theorem runL_at' (c : Cls) (t : Int) : ∀ (l : List Int) (s : Sto) (k : Nat) (h : k < (runL c t s l).length), (runL c t s l)[k] = runoff c (runS c t s (l.take k)) (l[k]'(by rw [runL_length] at h; exact h))
  | [], _, k, h => by simp [runL] at h
  | x :: l, s, 0, _ => rfl
  | x :: l, s, k + 1, h => runL_at' c t l (stepS c s x t) k (by simpa [runL] using h)
def RRunPost (c : Cls) (s : Sto) (l : List Int) (t : Int) (w : World) (e : Ending) (w' : World) : Prop :=
  Below w.heap.size w w' ∧ ∃ (A : Option Addr) (cap : Nat), e = .returned (.tuple #[(runS c t s l).val, .slice A (runL c t s l).length cap]) ∧ IntSl w' A (runL c t s l) ∧ (∀ a, A = some a → w.heap.size ≤ a.block)
theorem heap_new_at {W : World} {o : Obj} {n : Nat} (h : W.heap.size = n) : (W.alloc o).heap[n]? = some o := by subst h; exact heap_alloc_new W o
theorem keeps_alloc {w w' : World} (h : Below w.heap.size w w') : ∀ o b i v, w.cell? ⟨b, i, none⟩ = some v → (w'.alloc o).cell? ⟨b, i, none⟩ = some v := fun o b i v hc => by
  rw [World.cell?_alloc_lt _ _ _ (lt_of_cell (keeps h b i v hc))]
  exact keeps h b i v hc
set_option maxRecDepth 100000 in
set_option maxHeartbeats 4000000 in
theorem rrun_any (c : Cls) (s : Sto) (l : List Int) (A : Option Addr) (cap : Nat) (t : Int) (w : World) (hl : IntSl w A l) (hp : RightP c) (hh : HoldsP c s) (ht : lenB t = true) (hd : depB l = true) (h4 : l.length ≤ 10000) :
    Calls Try.prog 28 #[c.val, s.val, .slice A l.length cap, .int .i64 t] w (RRunPost c s l t w) := by
  have HL := hide hl
  have X := (((Own.start w).alloc #[.string c.nm, .int .i64 c.se, .int .i64 c.we, .int .i64 c.ro, .int .i64 c.dr] 23).alloc #[.int .i64 s.wt, .int .i64 s.he] 25).alloc #[.int .i64 0, .int .i64 0] 25
  simp only [World.size_alloc] at X
  have htb := lenB_iff.1 ht
  have V := hide (And.intro hp (And.intro hh (And.intro ht hd)))
  clear hl hp hh ht hd
  obtain ⟨i0, hi0, hz0, hz1, hz2⟩ := info_parts int_info
  go_enter Try.func28, Try.ntmps28
  go_wp2
  go_loopw [10, 11] (fun v8 v9 wr => ∃ k : Nat, k ≤ l.length ∧ v9 = .int .i64 k ∧
      Own w wr [(w.heap.size + 1 + 1, 25, #[.int .i64 0, .int .i64 0]), (w.heap.size + 1, 25, #[.int .i64 (runS c t s (l.take k)).wt, .int .i64 (runS c t s (l.take k)).he]), (w.heap.size, 23, #[.string c.nm, .int .i64 c.se, .int .i64 c.we, .int .i64 c.ro, .int .i64 c.dr])] ∧
      wr.ownsRow w.heap.size 3 1 v8 k ((runL c t s (l.take k)).map (Value.int .i64))) (fun _ v9 _ => l.length - (intOf v9).toNat)
  case atStart => exact ⟨0, Nat.zero_le _, rfl, by simpa [runS] using X, by simpa [runL] using World.ownsRow_nil _ _ _ _⟩
  case round =>
    obtain ⟨k, hk, rfl, Y, hrow⟩ := hrel
    have hhk := run_take V.out.1 V.out.2.1 (by omega) htb.2 V.out.2.2.2 (l := l) k
    by_cases hlt : k < l.length
    · obtain ⟨b, off, rfl, hbl, hat⟩ := (HL.out.below Y.1).2 (by omega)
      have c0 := hat k hlt
      have hd := depB_at V.out.2.2.2 k hlt
      clear hat
      have eS : Hid (runS c t s (l.take (k + 1)) = stepS c (runS c t s (l.take k)) l[k] t) := by rw [take_snocI l k hlt]; exact runS_snoc c t _ s _
      have eL : Hid (runL c t s (l.take (k + 1)) = runL c t s (l.take k) ++ [runoff c (runS c t s (l.take k)) l[k]]) := by rw [take_snocI l k hlt]; exact runL_snoc c t _ s _
      have HH := hide hhk
      generalize hS : runS c t s (l.take k) = S at *
      generalize hR : runL c t s (l.take k) = R at *
      generalize hx : l[k] = x at *
      have hq := Y.r3
      clear hhk hS hR hx
      obtain ⟨d1, d2⟩ := hd
      have k0 : (0 : Int) ≤ (k : Int) := by omega
      have k1 : (k : Int) < (l.length : Int) := by omega
      go_wp2_with fail
      have HY := hide Y
      have n1 : ¬ wr.heap.size = b := by omega
      have n2 : ¬ wr.heap.size = w.heap.size := by have := hq.2.2.2.2; omega
      have n3 : ¬ wr.heap.size = w.heap.size + 1 := by have := hq.2.1.2.2; omega
      have HR := hide hrow
      go_region_held3 (fun w' => w'.cell? ⟨b, off + k, none⟩ = some (.int .i64 x) ∧ w'.cell? ⟨w.heap.size + 1, 0, none⟩ = some (.int .i64 S.wt) ∧ w'.cell? ⟨w.heap.size + 1, 1, none⟩ = some (.int .i64 S.he) ∧
          w'.cell? ⟨w.heap.size, 0, none⟩ = some (.string c.nm) ∧ w'.cell? ⟨w.heap.size, 1, none⟩ = some (.int .i64 c.se) ∧ w'.cell? ⟨w.heap.size, 2, none⟩ = some (.int .i64 c.we) ∧ w'.cell? ⟨w.heap.size, 3, none⟩ = some (.int .i64 c.ro) ∧ w'.cell? ⟨w.heap.size, 4, none⟩ = some (.int .i64 c.dr)) (go_keep)
        (first | (go_at_call 18; refine (rstep_any c S x t _ V.out.1 HH.out d1 d2 (by omega) htb.2).mono ?_; rintro e w3 ⟨rfl, hb⟩; have hk3 := keeps hb; have hk4 := keeps_alloc hb; have hc3 := (below_cells hb).1; have hf3 := (below_cells hb).2; have hz3 := hb.size))
      · have Y := (HY.out.drew.to hb).alloc #[.int .i64 (stepS c S x t).wt, .int .i64 (stepS c S x t).he] 25
        have hrow := (row_below (row_drew HR.out) hb).alloc (.cells #[.int .i64 (stepS c S x t).wt, .int .i64 (stepS c S x t).he] 25)
        have hne : w.heap.size + 1 ≠ w3.heap.size := by have := (HY.out.drew.to hb).r3.2.1.2.2; omega
        clear hb hk3 hk4 hc3 hf3 hz3 hq HY HR n1 n2 n3
        generalize w3.heap.size = nb at *
        generalize w3.alloc (.cells #[.int .i64 (stepS c S x t).wt, .int .i64 (stepS c S x t).he] 25) = W at *
        have hz := Y.1.size
        have hr5 := Y.r4
        have B1 : Blk W (w.heap.size + 1) 25 #[.int .i64 S.wt, .int .i64 S.he] := Y.2 (w.heap.size + 1, 25, #[.int .i64 S.wt, .int .i64 S.he]) (by simp)
        go_wp2_with (at_builtin; refine wpList_append_own _ rfl _ _ 42 rfl w.heap.size 3 i0 (.int .i64 0) 1 8 Try.underlying42 hi0 hz0 hz1 hz2 rfl (by decide) _ k (R.map (Value.int .i64)) rfl ((row_set (row_set hrow B1 (by decide) 0 (.int .i64 (stepS c S x t).wt)) (B1.set_ 0 _) (by decide) 1 (.int .i64 (stepS c S x t).he)).alloc (.cells #[.int .i64 (runoff c S x)] 3)) ⟨W.heap.size, 0, none⟩ 1 1 [.int .i64 (runoff c S x)] rfl rfl (World.news_of_block (cs := #[.int .i64 (runoff c S x)]) (t := 3) (fr := (0, 0)) (heap_new_at (by simp [World.setCell]))) (by simp [Value.oneCell']) (by unfold maxLen; omega) (by omega) (by simp [World.setCell]; omega) ?_; intro v4 w4 hown4 hgrow _; have Z4 := (((Y.tail.swap.set0 (by omega) (by simp) 0 (.int .i64 (stepS c S x t).wt)).set0 (by omega) (by simp) 1 (.int .i64 (stepS c S x t).he)).swap.alloc #[.int .i64 (runoff c S x)] 3).tail.grown ((row_set (row_set hrow B1 (by decide) 0 (.int .i64 (stepS c S x t).wt)) (B1.set_ 0 _) (by decide) 1 (.int .i64 (stepS c S x t).he)).alloc (.cells #[.int .i64 (runoff c S x)] 3)) hgrow (by simp))
        go_roundw
        case rel =>
          refine ⟨k + 1, by omega, by go_num, ?_, ?_⟩
          · rw [eS.out]; exact Z4
          · rw [eL.out, List.map_append]; exact hown4
        case measure => simp [intOf]; omega
      · have hbz := HY.out.1.size
        have n4 : ¬ wr.heap.size = w.heap.size + 1 + 1 := by have := HY.out.r3.1.2.2; omega
        have Y0 := (HY.out.alloc #[.int .i64 0, .int .i64 0] 25).drew.to hb
        have Y := (Y0.set0 hbz (by simp; omega) 0 (.int .i64 (stepS c S x t).wt)).set0 hbz (by simp; omega) 1 (.int .i64 (stepS c S x t).he)
        have B0 : Blk w3 wr.heap.size 25 #[.int .i64 0, .int .i64 0] := Y0.2 (wr.heap.size, 25, #[.int .i64 0, .int .i64 0]) (by simp)
        have hrow := row_set (row_set (row_below (row_drew (HR.out.alloc (.cells #[.int .i64 0, .int .i64 0] 25))) hb) B0 (by decide) 0 (.int .i64 (stepS c S x t).wt)) (B0.set_ 0 _) (by decide) 1 (.int .i64 (stepS c S x t).he)
        have hne : w.heap.size + 1 ≠ wr.heap.size := by omega
        clear Y0 B0 n4
        clear hb hk3 hk4 hc3 hf3 hz3 hq HY HR n1 n2 n3
        generalize wr.heap.size = nb at *
        generalize (w3.setCell ⟨nb, 0, none⟩ (.int .i64 (stepS c S x t).wt)).setCell ⟨nb, 1, none⟩ (.int .i64 (stepS c S x t).he) = W at *
        have hz := Y.1.size
        have hr5 := Y.r4
        have B1 : Blk W (w.heap.size + 1) 25 #[.int .i64 S.wt, .int .i64 S.he] := Y.2 (w.heap.size + 1, 25, #[.int .i64 S.wt, .int .i64 S.he]) (by simp)
        go_wp2_with (at_builtin; refine wpList_append_own _ rfl _ _ 42 rfl w.heap.size 3 i0 (.int .i64 0) 1 8 Try.underlying42 hi0 hz0 hz1 hz2 rfl (by decide) _ k (R.map (Value.int .i64)) rfl ((row_set (row_set hrow B1 (by decide) 0 (.int .i64 (stepS c S x t).wt)) (B1.set_ 0 _) (by decide) 1 (.int .i64 (stepS c S x t).he)).alloc (.cells #[.int .i64 (runoff c S x)] 3)) ⟨W.heap.size, 0, none⟩ 1 1 [.int .i64 (runoff c S x)] rfl rfl (World.news_of_block (cs := #[.int .i64 (runoff c S x)]) (t := 3) (fr := (0, 0)) (heap_new_at (by simp [World.setCell]))) (by simp [Value.oneCell']) (by unfold maxLen; omega) (by omega) (by simp [World.setCell]; omega) ?_; intro v4 w4 hown4 hgrow _; have Z4 := (((Y.tail.swap.set0 (by omega) (by simp) 0 (.int .i64 (stepS c S x t).wt)).set0 (by omega) (by simp) 1 (.int .i64 (stepS c S x t).he)).swap.alloc #[.int .i64 (runoff c S x)] 3).tail.grown ((row_set (row_set hrow B1 (by decide) 0 (.int .i64 (stepS c S x t).wt)) (B1.set_ 0 _) (by decide) 1 (.int .i64 (stepS c S x t).he)).alloc (.cells #[.int .i64 (runoff c S x)] 3)) hgrow (by simp))
        go_roundw
        case rel =>
          refine ⟨k + 1, by omega, by go_num, ?_, ?_⟩
          · rw [eS.out]; exact Z4
          · rw [eL.out, List.map_append]; exact hown4
        case measure => simp [intOf]; omega
    · have e : k = l.length := by omega
      subst e
      rw [List.take_length] at Y hrow
      have hbd := runL_bd V.out.1 (by omega) htb.2 l s V.out.2.1 (depB_all V.out.2.2.2)
      have hll := runL_length c t l s
      obtain ⟨A', cp, rfl, hsl⟩ := IntSl.of_row hrow (by omega) (fun i hi => by have := hbd _ (List.getElem_mem hi); omega)
      have hr := Y.r3
      have HSL := hide hsl
      have HLL := hide hll
      have HB := hide hbd
      have HROW := hide hrow
      clear hsl hll hbd hrow
      go_wp2
      refine bodyPost_ret (v := .tuple #[(runS c t s l).val, .slice A' (runL c t s l).length cp]) (by simp [results, Try.results28, hr, go_sem]) rfl ⟨?_, A', cp, rfl, ?_, row_fresh HROW.out⟩
      · have HX := Y.1
        have hz := HX.size
        go_grown
      · have hbd := HB.out
        have hll := HLL.out
        have B2 : Blk wr (w.heap.size + 1 + 1) 25 #[.int .i64 0, .int .i64 0] := Y.2 (w.heap.size + 1 + 1, 25, #[.int .i64 0, .int .i64 0]) (by simp)
        exact IntSl.of_row2 (row_set (row_set HROW.out B2 (by decide) 0 _) (B2.set_ 0 _) (by decide) 1 _) (by omega) (fun i hi => by have := hbd _ (List.getElem_mem hi); omega)

/-- what does not run off, after the first k steps -/
def lostK (l r : List Int) : Nat → Int
  | 0 => 0
  | k + 1 => lostK l r k + (1000 * l.getD k 0 - r.getD k 0)
theorem lostK_bd {l r : List Int} {n : Nat} (h : ∀ i, i < n → 0 ≤ 1000 * l.getD i 0 - r.getD i 0 ∧ 1000 * l.getD i 0 - r.getD i 0 ≤ 4194304000) : ∀ k, k ≤ n → 0 ≤ lostK l r k ∧ lostK l r k ≤ k * 4194304000
  | 0, _ => by simp [lostK]
  | k + 1, hk => by
    have i := lostK_bd h k (by omega)
    have j := h k (by omega)
    have e : ((k + 1 : Nat) : Int) * 4194304000 = k * 4194304000 + 4194304000 := by omega
    simp only [lostK]
    omega
theorem lost_at {c : Cls} {t : Int} (hr : RightP c) (ht : 0 ≤ t) (ht' : t ≤ 86400) {l : List Int} {s : Sto} (h : HoldsP c s) (hd : depB l = true) (k : Nat) (hk : k < l.length) :
    0 ≤ 1000 * l.getD k 0 - (runL c t s l).getD k 0 ∧ 1000 * l.getD k 0 - (runL c t s l).getD k 0 ≤ 4194304000 := by
  have hk' : k < (runL c t s l).length := by rw [runL_length]; exact hk
  have d := depB_at hd k hk
  have b := runoff_bd hr (run_take hr h ht ht' hd k) d.1 d.2
  have e1 : l.getD k 0 = l[k] := by simp [hk]
  have e2 : (runL c t s l).getD k 0 = runoff c (runS c t s (l.take k)) l[k] := by rw [← runL_at' c t l s k hk']; simp [hk']
  rw [e1, e2]
  omega
def LostPost (c : Cls) (l : List Int) (t : Int) (w : World) (e : Ending) (w' : World) : Prop :=
  Below w.heap.size w w' ∧ ∃ er : Int, er = runE c Sto.zero l t ∧ ((er = 0 ∧ e = .returned (.tuple #[.int .i64 (lostK l (runL c t Sto.zero l) l.length), .int .i64 0])) ∨ (er ≠ 0 ∧ e = .returned (.tuple #[.int .i64 0, .int .i64 er])))
theorem getD_cell {w : World} {b off : Nat} {l : List Int} (h : ∀ i (h : i < l.length), w.cell? ⟨b, off + i, none⟩ = some (.int .i64 l[i])) {k : Nat} (hk : k < l.length) : w.cell? ⟨b, off + k, none⟩ = some (.int .i64 (l.getD k 0)) := by
  rw [h k hk]; simp [hk]
set_option maxRecDepth 100000 in
set_option maxHeartbeats 4000000 in
theorem lost_any (c : Cls) (l : List Int) (A : Option Addr) (cap : Nat) (t : Int) (w : World) (hnm : c.nm.size ≤ maxLen) (hl : IntSl w A l) :
    Calls Try.prog 25 #[c.val, .slice A l.length cap, .int .i64 t] w (LostPost c l t w) := by
  have hlen : l.length ≤ 9223372036854775807 := hl.1.1
  have HL := hide hl
  clear hl
  have X := (Own.start w).alloc #[.string c.nm, .int .i64 c.se, .int .i64 c.we, .int .i64 c.ro, .int .i64 c.dr] 23
  go_enter Try.func25, Try.ntmps25
  go_wp2_with fail
  refine (run_any c Sto.zero l A cap t _ hnm (HL.out.below X.1)).mono ?_
  rintro e w1 ⟨hb, er, S, B, xs, cp, rfl, hxs, hfr, her, hok, hbad⟩
  replace X := X.to hb
  have HE := hide her
  have HX := hide hxs
  clear hb hxs hfr her
  by_cases h3 : er = 0
  rotate_left
  · obtain ⟨q1, q2⟩ := hbad h3
    subst q1 q2
    have e1 : (er == 0) = false := by simp [h3]
    have e2 : (er != 0) = true := by simp [h3]
    have H3 := hide h3
    clear h3 hok hbad
    go_wp2
    go_ret2
    exact ⟨X.1.alloc X.1.size _, er, HE.out, .inr ⟨H3.out, rfl⟩⟩
  obtain ⟨q1, q2, q3, q4, q5, q6⟩ := hok h3
  subst h3 q1 q2
  have hll := runL_length c t l Sto.zero
  obtain ⟨hp, hh⟩ := validSt_iff q3
  have ht := lenB_iff.1 q4
  have hbd : ∀ i, i < l.length → 0 ≤ 1000 * l.getD i 0 - (runL c t Sto.zero l).getD i 0 ∧ 1000 * l.getD i 0 - (runL c t Sto.zero l).getD i 0 ≤ 4194304000 := fun i hi => lost_at hp (by omega) ht.2 hh q5 i hi
  have hdb : ∀ i, i < l.length → 0 ≤ l.getD i 0 ∧ l.getD i 0 ≤ 4194304 := fun i hi => by have := depB_at q5 i hi; simpa [hi] using this
  have HB := hide hbd
  have HD := hide hdb
  have HLL := hide hll
  clear hok hbad hp hh q3 q4 q5 hll hbd hdb
  go_wp2
  generalize hR : runL c t Sto.zero l = R at *
  have HR := hide hR
  clear hR
  go_loop [11, 28] (fun v11 v28 => ∃ k : Nat, k ≤ l.length ∧ v28 = .int .i64 k ∧ v11 = .int .i64 (lostK l R k)) (fun _ v28 => l.length - (intOf v28).toNat)
  case atStart => exact ⟨0, Nat.zero_le _, rfl, rfl⟩
  case round =>
    obtain ⟨k, hk, rfl, rfl⟩ := hrel
    have b1 := lostK_bd HB.out k hk
    by_cases hlt : k < l.length
    · have hlt' : k < R.length := by rw [HLL.out]; exact hlt
      obtain ⟨b, off, rfl, hbl, hat⟩ := (HL.out.below X.1).2 (by omega)
      obtain ⟨b', off', rfl, hbl', hat'⟩ := HX.out.2 (by omega)
      have c0 := getD_cell hat hlt
      have c1 := getD_cell hat' hlt'
      have b2 := HB.out k hlt
      have b3 := HD.out k hlt
      have E : Hid (lostK l R (k + 1) = lostK l R k + (1000 * l.getD k 0 - R.getD k 0)) := rfl
      clear hat hat'
      generalize l.getD k 0 = x at *
      generalize R.getD k 0 = y at *
      generalize lostK l R k = z at *
      go_wp2
      go_round
      case rel => exact ⟨k + 1, by omega, by go_num, by rw [E.out]⟩
      case measure => simp [intOf]; omega
    · have e : k = l.length := by omega
      subst e
      go_wp2
      go_ret2
      exact ⟨X.1.alloc X.1.size _, 0, HE.out, .inl ⟨rfl, by rw [HR.out]; rfl⟩⟩
end Go.Proofs.Ytljaibbmceknfaa
