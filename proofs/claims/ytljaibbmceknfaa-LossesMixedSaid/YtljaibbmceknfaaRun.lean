/- The program's Run: the store at the end and what runs off, or the error; nothing that was there is turned. -/
import Derived.Test.YtljaibbmceknfaaRunPlain
import Derived.Test.YtljaibbmceknfaaLossSteps
import Derived.Test.YtljaibbmceknfaaIntFn
namespace Go.Proofs.Ytljaibbmceknfaa
open Go.RowKit

theorem int_info : (Try.prog.info? 3).map (fun i => (i.zero, i.size, i.bytes)) = some (some (.int .i64 0), 1, 8) := by kernel_rfl
theorem runfn_any (d : Int) (w : World) : Calls Try.prog 44 #[.int .i64 d] w fun e w' => e = .returned (.bool (!(inB d 4194304))) ∧ w = w' := by
  go_enter Try.func44, Try.ntmps44
  go_wp2_with (go_at_call 36; refine (within_any _ _ _).mono ?_; rintro e w' ⟨rfl, rfl⟩)
  go_ret
  exact ⟨rfl, rfl⟩
def runE (c : Cls) (s : Sto) (l : List Int) (t : Int) : Int := if validSt c s = true then (if l.length ≤ 10000 then (if lenB t = true ∧ depB l = true then 0 else 2) else 4) else 1
def RunPost (c : Cls) (s : Sto) (l : List Int) (t : Int) (w : World) (e : Ending) (w' : World) : Prop :=
  Below w.heap.size w w' ∧ ∃ (er : Int) (S : Sto) (A : Option Addr) (xs : List Int) (cap : Nat), e = .returned (.tuple #[S.val, .slice A xs.length cap, .int .i64 er]) ∧ IntSl w' A xs ∧ (∀ a, A = some a → w.heap.size ≤ a.block) ∧ er = runE c s l t ∧
    (er = 0 → S = runS c t s l ∧ xs = runL c t s l ∧ validSt c s = true ∧ lenB t = true ∧ depB l = true ∧ l.length ≤ 10000) ∧ (er ≠ 0 → S = Sto.zero ∧ xs = [])
theorem RunPost.err {c : Cls} {s : Sto} {l : List Int} {t : Int} {w w' : World} {er : Int} (hb : Below w.heap.size w w') (he : er = runE c s l t) (h0 : er ≠ 0) :
    RunPost c s l t w (.returned (.tuple #[.agg #[.int .i64 0, .int .i64 0], .slice none 0 0, .int .i64 er])) w' :=
  ⟨hb, er, Sto.zero, none, [], 0, rfl, IntSl.nil _ _, (fun a h => by cases h), he, fun h => absurd h h0, fun _ => ⟨rfl, rfl⟩⟩
theorem any_depB (l : List Int) : (l.any fun d => !(inB d 4194304)) = !(depB l) := by simp [depB]
theorem IntSl.of_row2 {w : World} {base : Nat} {e : TypeId} {A : Option Addr} {n m c : Nat} {l : List Int} (h : w.ownsRow base e 1 (.slice A m c) n (l.map (Value.int .i64)))
    (hb : l.length ≤ 9223372036854775807) (hr : ∀ i (h : i < l.length), -9223372036854775808 ≤ l[i] ∧ l[i] ≤ 9223372036854775807) : IntSl w A l := by
  obtain ⟨A', c', e, h⟩ := IntSl.of_row h hb hr
  injection e with e1
  subst e1
  exact h
theorem row_fresh {w : World} {base : Nat} {e : TypeId} {size n m c : Nat} {A : Option Addr} {xs : List Value} (h : w.ownsRow base e size (.slice A n c) m xs) : ∀ a, A = some a → base ≤ a.block :=
  fun a ha => (h.lt a.block (by simp [Value.ownBlock, ha])).1
theorem IntSl.set {w : World} {A : Option Addr} {l : List Int} (h : IntSl w A l) {g : Nat} (hne : ∀ a, A = some a → a.block ≠ g) (i : Nat) (u : Value) : IntSl (w.setCell ⟨g, i, none⟩ u) A l :=
  ⟨h.1, fun hl => by
    obtain ⟨b, off, e, hlt, hat⟩ := h.2 hl
    refine ⟨b, off, e, by simpa [World.setCell] using hlt, fun j hj => ?_⟩
    rw [World.cell?_setCell_other _ _ _ _ (fun e' => hne _ e (by have := congrArg Addr.block e'; simp at this ⊢; omega))]
    exact hat j hj⟩
set_option maxRecDepth 100000 in
set_option maxHeartbeats 4000000 in
theorem run_any (c : Cls) (s : Sto) (l : List Int) (A : Option Addr) (cap : Nat) (t : Int) (w : World) (hnm : c.nm.size ≤ maxLen) (hl : IntSl w A l) :
    Calls Try.prog 21 #[c.val, s.val, .slice A l.length cap, .int .i64 t] w (RunPost c s l t w) := by
  have hlen : l.length ≤ 9223372036854775807 := by have := hl.1.1; omega
  have HL := hide hl
  clear hl
  have X := (((Own.start w).alloc #[.string c.nm, .int .i64 c.se, .int .i64 c.we, .int .i64 c.ro, .int .i64 c.dr] 23).alloc #[.int .i64 s.wt, .int .i64 s.he] 25).alloc #[.int .i64 0, .int .i64 0] 25
  simp only [World.size_alloc] at X
  rcases Bool.eq_false_or_eq_true (validSt c s) with t1 | t1
  rotate_left
  · go_enter Try.func21, Try.ntmps21
    go_wp2_with fail
    refine (validStore_any c s _ hnm).mono ?_
    rintro e w1 ⟨rfl, hb⟩
    replace X := X.to hb
    clear hb
    have hr := X.r3
    go_wp2
    refine bodyPost_ret (v := .tuple #[.agg #[.int .i64 0, .int .i64 0], .slice none 0 0, .int .i64 1]) (by simp [results, Try.results21, hr, go_sem]) rfl
      (RunPost.err ?_ (by simp [runE, t1]) (by decide))
    have HX := X.1
    have hz := HX.size
    go_grown
  by_cases t2 : l.length ≤ 10000
  rotate_left
  · go_enter Try.func21, Try.ntmps21
    go_wp2_with fail
    refine (validStore_any c s _ hnm).mono ?_
    rintro e w1 ⟨rfl, hb⟩
    replace X := X.to hb
    clear hb
    have hr := X.r3
    go_wp2
    refine bodyPost_ret (v := .tuple #[.agg #[.int .i64 0, .int .i64 0], .slice none 0 0, .int .i64 4]) (by simp [results, Try.results21, hr, go_sem]) rfl
      (RunPost.err ?_ (by simp [runE, t1]; omega) (by decide))
    have HX := X.1
    have hz := HX.size
    go_grown
  have D : lenB t = false ∨ (lenB t = true ∧ depB l = false) ∨ (lenB t = true ∧ depB l = true) := by cases lenB t <;> cases depB l <;> simp
  rcases D with t3 | ⟨t3, t4⟩ | ⟨t3, t4⟩
  · go_enter Try.func21, Try.ntmps21
    go_wp2_with fail
    refine (validStore_any c s _ hnm).mono ?_
    rintro e w1 ⟨rfl, hb⟩
    replace X := X.to hb
    clear hb
    have hr := X.r3
    go_wp2_with (go_at_call 37; refine (length_any _ _).mono ?_; rintro e w' ⟨rfl, rfl⟩)
    refine bodyPost_ret (v := .tuple #[.agg #[.int .i64 0, .int .i64 0], .slice none 0 0, .int .i64 2]) (by simp [results, Try.results21, hr, go_sem]) rfl
      (RunPost.err ?_ (by simp [runE, t1, t2, t3]) (by decide))
    have HX := X.1
    have hz := HX.size
    go_grown
  all_goals
    have HD := hide (any_depB l)
    go_enter Try.func21, Try.ntmps21
    go_wp2_with fail
    refine (validStore_any c s _ hnm).mono ?_
    rintro e w1 ⟨rfl, hb⟩
    replace X := X.to hb
    clear hb
    have hr := X.r3
    go_wp2_with fail
    refine (length_any _ _).mono ?_
    rintro e w' ⟨rfl, rfl⟩
    go_wp2_with fail
    refine (contI_any 44 (fun d => !(inB d 4194304)) runfn_any (fun _ _ => by kernel_rfl) l A cap _ (HL.out.below (X.1))).mono ?_
    rintro e w' ⟨rfl, rfl⟩
    rw [HD.out, t4]
  · go_wp2
    refine bodyPost_ret (v := .tuple #[.agg #[.int .i64 0, .int .i64 0], .slice none 0 0, .int .i64 2]) (by simp [results, Try.results21, hr, go_sem]) rfl
      (RunPost.err ?_ (by simp [runE, t1, t2, t3, t4]) (by decide))
    have HX := X.1
    have hz := HX.size
    go_grown
  · obtain ⟨hp, hh⟩ := validSt_iff t1
    have ht := lenB_iff.1 t3
    have V := hide (And.intro hp (And.intro hh (And.intro t1 (And.intro t3 t4))))
    clear hp hh t1 t3 t4
    obtain ⟨i0, hi0, hz0, hz1, hz2⟩ := info_parts int_info
    have hreach := HL.out.1.1
    go_wp2
    clear hr
    go_loopw [11, 38] (fun v11 v38 wr => ∃ k : Nat, k ≤ l.length ∧ v38 = .int .i64 k ∧
      Own w wr [(w.heap.size + 1 + 1, 25, #[.int .i64 0, .int .i64 0]), (w.heap.size + 1, 25, #[.int .i64 (runS c t s (l.take k)).wt, .int .i64 (runS c t s (l.take k)).he]), (w.heap.size, 23, #[.string c.nm, .int .i64 c.se, .int .i64 c.we, .int .i64 c.ro, .int .i64 c.dr])] ∧
      wr.ownsRow w.heap.size 3 1 v11 k ((runL c t s (l.take k)).map (Value.int .i64))) (fun _ v38 _ => l.length - (intOf v38).toNat)
    case atStart => exact ⟨0, Nat.zero_le _, rfl, by simpa [runS] using X, by simpa [runL] using World.ownsRow_nil _ _ _ _⟩
    case round =>
      obtain ⟨k, hk, rfl, Y, hrow⟩ := hrel
      have hhk := run_take V.out.1 V.out.2.1 (by omega) ht.2 V.out.2.2.2.2 (l := l) k
      by_cases hlt : k < l.length
      · obtain ⟨b, off, rfl, hbl, hat⟩ := (HL.out.below Y.1).2 (by omega)
        have c0 := hat k hlt
        have hd := depB_at V.out.2.2.2.2 k hlt
        clear hat
        have eS : Hid (runS c t s (l.take (k + 1)) = stepS c (runS c t s (l.take k)) l[k] t) := by rw [take_snocI l k hlt]; exact runS_snoc c t _ s _
        have eL : Hid (runL c t s (l.take (k + 1)) = runL c t s (l.take k) ++ [runoff c (runS c t s (l.take k)) l[k]]) := by rw [take_snocI l k hlt]; exact runL_snoc c t _ s _
        have HH := hide hhk
        generalize hS : runS c t s (l.take k) = S at *
        generalize hR : runL c t s (l.take k) = R at *
        generalize hx : l[k] = x at *
        have hq := Y.r3
        clear hhk hS hR hx
        go_wp2_with fail
        refine (step_any c S x t _ V.out.1 HH.out hd.1 hd.2 (by omega) ht.2).mono ?_
        rintro e w3 ⟨rfl, hb⟩
        have hneq : w.heap.size + 1 ≠ w3.heap.size := by have := (Y.to hb).r3.1.2.2; omega
        replace Y := (Y.to hb).alloc #[.int .i64 (stepS c S x t).wt, .int .i64 (stepS c S x t).he] 25
        replace hrow := (row_below hrow hb).alloc (.cells #[.int .i64 (stepS c S x t).wt, .int .i64 (stepS c S x t).he] 25)
        clear hb hq c0
        go_wp2_with fail
        generalize w3.heap.size = nb at *
        generalize w3.alloc (.cells #[.int .i64 (stepS c S x t).wt, .int .i64 (stepS c S x t).he] 25) = W at *
        have hr5 := Y.r4
        go_region_held3 (fun w' => w'.cell? ⟨nb, 0, none⟩ = some (.int .i64 (stepS c S x t).wt) ∧ w'.cell? ⟨nb, 1, none⟩ = some (.int .i64 (stepS c S x t).he)) (go_keep)
          ((refine step_append_lies _ (by rfl) _ _ _ (by rfl) w.heap.size 3 i0 _ 1 8 Try.underlying42 hi0 hz0 hz1 hz2 rfl (by omega) _ k (R.map (Value.int .i64)) (by rfl) (row_drew (hrow.alloc (.cells #[.int .i64 (runoff c S x)] 3)))
              ⟨W.heap.size, 0, none⟩ 1 1 [.int .i64 (runoff c S x)] (by rfl) (by rfl) (World.news_of_block (cs := #[.int .i64 (runoff c S x)]) (t := 3) (fr := (0, 0)) (heap_alloc_new W _)) (by simp [Value.oneCell'])
              (by omega) (by unfold maxLen; omega) (by omega) (by have := Y.1.size; simp; omega) (W.heap.size + 1) (by simp) ?_; intro gg cp w4 hown4 hgrow hat4 hlt4; have Y4 := (Y.alloc #[.int .i64 (runoff c S x)] 3).drew.tail.grown (row_drew (hrow.alloc (.cells #[.int .i64 (runoff c S x)] 3))) hgrow (by simp); have hr6 := Y4.r4))
        go_wp2
        go_roundw
        case rel =>
          refine ⟨k + 1, by omega, by go_num, ?_, ?_⟩
          · rw [eS.out]
            exact ((Y4.tail.swap.set0 (by omega) (by simp) 0 (.int .i64 (stepS c S x t).wt)).set0 (by omega) (by simp) 1 (.int .i64 (stepS c S x t).he)).swap
          · rw [eL.out, List.map_append]
            have B1 : Blk w4 (w.heap.size + 1) 25 #[.int .i64 S.wt, .int .i64 S.he] := Y4.2 (w.heap.size + 1, 25, #[.int .i64 S.wt, .int .i64 S.he]) (by simp)
            exact row_set (row_set hown4 B1 (by decide) 0 _) (B1.set_ 0 _) (by decide) 1 _
        case measure => simp [intOf]; omega
      · have e : k = l.length := by omega
        subst e
        rw [List.take_length] at Y hrow
        have hbd := runL_bd V.out.1 (by omega) ht.2 l s V.out.2.1 (depB_all V.out.2.2.2.2)
        have hll := runL_length c t l s
        obtain ⟨A', cp, rfl, hsl⟩ := IntSl.of_row hrow (by omega) (fun i hi => by have := hbd _ (List.getElem_mem hi); omega)
        have hr := Y.r3
        have HSL := hide hsl
        have HLL := hide hll
        have HB := hide hbd
        have HROW := hide hrow
        clear hsl hll hbd hrow
        go_wp2
        refine bodyPost_ret (v := .tuple #[(runS c t s l).val, .slice A' (runL c t s l).length cp, .int .i64 0]) (by simp [results, Try.results21, hr, go_sem]) rfl ⟨?_, 0, runS c t s l, A', runL c t s l, cp, rfl, ?_, row_fresh HROW.out, ?_, fun _ => ⟨rfl, rfl, V.out.2.2.1, V.out.2.2.2.1, V.out.2.2.2.2, t2⟩, fun h => absurd rfl h⟩
        · have HX := Y.1
          have hz := HX.size
          go_grown
        · have hbd := HB.out
          have hll := HLL.out
          have B2 : Blk wr (w.heap.size + 1 + 1) 25 #[.int .i64 0, .int .i64 0] := Y.2 (w.heap.size + 1 + 1, 25, #[.int .i64 0, .int .i64 0]) (by simp)
          exact IntSl.of_row2 (row_set (row_set HROW.out B2 (by decide) 0 _) (B2.set_ 0 _) (by decide) 1 _) (by omega) (fun i hi => by have := hbd _ (List.getElem_mem hi); omega)
        · simp [runE, V.out.2.2.1, t2, V.out.2.2.2.1, V.out.2.2.2.2]
end Go.Proofs.Ytljaibbmceknfaa
