/- Parts of one proof, joined: The program's Parse of a list of classes: what it returns; nothing that was there is turned. Fractions, said of integers: what is made of a numerator and a denominator, which fractions are valid, and that two valid fractions of one value are equal. -/
import Derived.Test.YtaaadejamjbcbaaGreatDoorPkLanduseWhole12
import Derived.Test.YtaaadejamjbcbaaGreatDoorPkLanduseWhole13
import Derived.Test.YtaaadejamjbcbaaGreatDoorPkLanduseWhole2
namespace Go.Proofs.YtaaadejamjbcbaaGreatDoor
open Go Go.RowKit Go.Shelf

attribute [local go_sem] Oper.semAt_some

def prsF (s : List UInt8) : List Cls × Int × Int := if 262144 < s.length then ([], 0, 4) else prs (pts 10 s) 0 []
def colI (n : Int) : Int := if n = 0 then 0 else 1
def PrsPost (s : List UInt8) (w : World) (e : Ending) (w' : World) : Prop :=
  Below w.heap.size w w' ∧ ∃ (A : Option Addr) (c : Nat), e = .returned (.tuple #[.slice A (prsF s).1.length c, .agg #[.int .i64 (prsF s).2.1, .int .i64 (colI (prsF s).2.1)], .int .i64 (prsF s).2.2]) ∧ ClsSl w' A (prsF s).1 ∧ (prsF s).1.length ≤ c
theorem PrsPost.err {s : List UInt8} {w w' : World} {ln er : Int} (hb : Below w.heap.size w w') (h : prsF s = ([], ln, er)) : PrsPost s w (.returned (.tuple #[.slice none 0 0, .agg #[.int .i64 ln, .int .i64 (colI ln)], .int .i64 er])) w' := by
  refine ⟨hb, none, 0, by rw [h]; rfl, by rw [h]; exact ClsSl.nil _ _, by rw [h]; exact Nat.le_refl _⟩
set_option maxRecDepth 100000 in
set_option maxHeartbeats 4000000 in
theorem parse_any (s : List UInt8) (w : World) (hs : s.length ≤ 900000) (ht : TxtW w) : Calls Tryz.prog 19 #[strV s] w (PrsPost s w) := by
  have HT := hide ht
  clear ht
  have hs2 : (⟨s.toArray⟩ : ByteArray).size = s.length := by simp [ByteArray.size]
  have X := (((Own.start w).alloc #[.slice none 0 0] 49).alloc #[.int .i64 0, .int .i64 0] 51).alloc #[.int .i64 0] 28
  simp only [World.size_alloc] at X
  have hr := X.r3
  by_cases hbig : 262144 < s.length
  · have E : Hid (prsF s = ([], 0, 4)) := hide (by unfold prsF; rw [if_pos hbig])
    have q1 : decide ((262144 : Int) < (s.length : Int)) = true := decide_eq_true (by omega)
    clear hbig
    go_enter Tryz.func19, Tryz.ntmps19
    go_wp2
    exact bodyPost_ret (v := .tuple #[.slice none 0 0, .agg #[.int .i64 0, .int .i64 0], .int .i64 4]) (by simp [results, Tryz.results19, go_sem]) rfl (PrsPost.err (by have HX := X.1; have hz := HX.size; go_grown) E.out)
  have q1 : decide ((262144 : Int) < (s.length : Int)) = false := decide_eq_false (by omega)
  have EF : Hid (prsF s = prsL (lns s) 0 []) := hide (by unfold prsF; rw [if_neg hbig, prs_lns])
  clear hbig
  refine (callsIn_wide (n := 4)).1 ?_
  refine callsIn_of_wp_marks Tryz.func19 rfl trivial ?_ rfl
  simp only [Tryz.ntmps19, List.size_toArray, List.length_cons, List.length_nil, Nat.reduceAdd, Nat.reduceSub, Array.replicate_succ, Array.replicate_zero, List.push_toArray, List.append_toArray, List.nil_append, List.cons_append]
  gi_wp2_with fail
  refine ⟨trivial, (callsIn_wide.2 (lines_any s _)).mono ?_⟩
  rintro e w1 ⟨rfl, rfl⟩
  have hb5 : w.heap.size + 1 + 1 + 1 + 1 + 1 = w.heap.size + 5 := by omega
  replace X := ((X.alloc #[.slice none 0 0] 49).alloc #[.int .i64 1, .int .i64 1] 51).alloc #[strV s] 9
  simp only [World.size_alloc] at X
  clear hr
  gi_wp2
  generalize hW : (((((w.alloc (.cells #[.slice none 0 0] 49)).alloc (.cells #[.int .i64 0, .int .i64 0] 51)).alloc (.cells #[.int .i64 0] 28)).alloc (.cells #[.slice none 0 0] 49)).alloc (.cells #[.int .i64 1, .int .i64 1] 51)).alloc (.cells #[strV s] 9) = W at *
  have hWs : W.heap.size = w.heap.size + 6 := by rw [← hW]; simp
  clear hW
  have BX : Blk W (w.heap.size + 1 + 1 + 1 + 1 + 1) 9 #[strV s] := X.2 (_, _, _) (List.mem_cons_self ..)
  have G0 : Grw 57 49 5 w W W.heap.size (w.heap.size + 1 + 1 + 1) [(w.heap.size + 1 + 1 + 1 + 1, 51, #[.int .i64 1, .int .i64 1]), (w.heap.size + 1 + 1, 28, #[.int .i64 0]), (w.heap.size + 1, 51, #[.int .i64 0, .int .i64 0]), (w.heap.size, 49, #[.slice none 0 0])] (.slice none 0 0) 0 [] := by
    refine ⟨X.tail.swap, World.ownsRow_nil _ _ _ _, ⟨Nat.le_refl _, X.1.size, by omega⟩, ⟨by omega, fun x hx => ?_⟩, ⟨by decide, fun x hx => ?_⟩, fun x hx => ?_⟩
    all_goals
      simp only [List.mem_cons, List.not_mem_nil, or_false] at hx
      rcases hx with rfl | rfl | rfl | rfl
      all_goals dsimp only
      all_goals first | decide | omega
  have GH := hide G0
  clear X G0
  have LN := hide (fun x hx => lns_len (s := s) x hx)
  have LL := lns_length s
  refine' rangeFunc_box rfl (by decide) (gf := 55) (lb := #[.pointer (some ⟨w.heap.size + 1 + 1 + 1 + 1 + 1, 0, none⟩)]) rfl trivial (enters_of Tryz.func55 (by kernel_rfl) rfl)
    (encs := fun x : List UInt8 => #[strV x]) (Bs := w.heap.size + 1 + 1 + 1 + 1 + 1) (L := lns s) (lines_gives 3 (by decide) _ s (by omega) W BX) BX.lt (fun _ => rfl)
    (fun pre W' => pre <+: lns s ∧ ∃ acc v, acc.length = pre.length ∧ (∀ c ∈ acc, c.nm.size ≤ maxLen) ∧ prsL (lns s) 0 [] = prsL ((lns s).drop pre.length) pre.length acc ∧
      Grw 57 49 5 w W' W.heap.size (w.heap.size + 1 + 1 + 1) [(w.heap.size + 1 + 1 + 1 + 1, 51, #[.int .i64 ((pre.length : Int) + 1), .int .i64 1]), (w.heap.size + 1 + 1, 28, #[.int .i64 0]), (w.heap.size + 1, 51, #[.int .i64 0, .int .i64 0]), (w.heap.size, 49, #[.slice none 0 0])] v acc.length (flatC acc))
    (fun c _ W' => c = .ret ∧ ∃ (k n : Nat) (v : Value) (xs : List Value), prsL (lns s) 0 [] = ([], (k : Int) + 1, 7) ∧
      Grw 57 49 5 w W' W.heap.size (w.heap.size + 1 + 1 + 1) [(w.heap.size + 1 + 1 + 1 + 1, 51, #[.int .i64 ((k : Int) + 1), .int .i64 1]), (w.heap.size + 1 + 1, 28, #[.int .i64 7]), (w.heap.size + 1, 51, #[.int .i64 ((k : Int) + 1), .int .i64 1]), (w.heap.size, 49, #[.slice none 0 0])] v n xs)
    (fun _ A B row hs hg hr => by obtain ⟨h1, acc, v, h2, h3, h4, h5⟩ := hs; exact ⟨h1, acc, v, h2, h3, h4, h5.turn hg hr⟩)
    (fun _ _ A B row hs hg hr => by obtain ⟨h1, k, n, v, xs, h2, h5⟩ := hs; exact ⟨h1, k, n, v, xs, h2, h5.turn hg hr⟩)
    (fun _ A B hs hg => by
      obtain ⟨h1, acc, v, h2, h3, h4, h5⟩ := hs
      exact ⟨h1, acc, v, h2, h3, h4, h5.box hg (by omega) (by omega) (by omega) (fun x hx => by
        simp only [List.mem_cons, List.not_mem_nil, or_false] at hx
        rcases hx with rfl | rfl | rfl | rfl
        all_goals (show (_ : Nat) ≠ _; omega))⟩)
    (fun _ _ A B hs hg => by
      obtain ⟨h1, k, n, v, xs, h2, h5⟩ := hs
      exact ⟨h1, k, n, v, xs, h2, h5.box hg (by omega) (by omega) (by omega) (fun x hx => by
        simp only [List.mem_cons, List.not_mem_nil, or_false] at hx
        rcases hx with rfl | rfl | rfl | rfl
        all_goals (show (_ : Nat) ≠ _; omega))⟩)
    ⟨⟨lns s, rfl⟩, [], .slice none 0 0, rfl, (fun c hc => by simp at hc), rfl, GH.out⟩
    _ ?assign ?body ?done ?stop
  case assign =>
    intro l x W K hK
    gi_wp2
    exact hK
  case body =>
    rintro l' pre x W' hpre ⟨_, acc, v, ha, hc, hp, Y⟩
    have hxm : x ∈ lns s := hpre.subset (by simp)
    have lx := LN.out x hxm
    have lb := body_len x
    have hdr : (lns s).drop pre.length = x :: (lns s).drop (pre.length + 1) := by
      obtain ⟨t, ht⟩ := hpre
      rw [← ht]
      simp
    have hlen : pre.length + 1 ≤ s.length + 1 := by
      have := hpre.length_le
      simp at this
      omega
    rw [hdr, prsL] at hp
    have CU := hide (fun W => cutSuf_any x W (by omega))
    have lx2 : (bodyL x).length ≤ 1000000 := by omega
    have CL := hide (fun W hW => class_any (bodyL x) W lx2 hW)
    have PRE := hide hpre
    have YH := hide Y
    have AL := hide (And.intro ha hc)
    have hcr : Hid ((clR (bodyL x)).nm.size ≤ maxLen) := hide (by
      unfold clR
      split
      · rename_i h
        have hr2 := cl_back h
        have : (clC (bodyL x)).nm.size ≤ (txC (clC (bodyL x))).length := by unfold txC; simp
        rw [hr2] at this
        unfold maxLen; omega
      · unfold maxLen clZ; simp [ByteArray.size])
    have i1 := IntWalk.i64_in ((pre.length : Int) + 1) (by omega)
    have i2 := IntWalk.i64_in ((pre.length : Int) + 1 + 1) (by omega)
    have ny : clR (bodyL x) = if clB (bodyL x) = true then clC (bodyL x) else clZ := rfl
    by_cases hok : clB (bodyL x) = true ∧ endB x = true
    · rw [if_pos hok] at hp
      obtain ⟨ok1, ok2⟩ := hok
      have HP := hide hp
      rw [if_pos ok1] at ny
      rw [← ny] at HP
      have CL2 : Hid (∀ W, TxtW W → Calls Tryz.prog 39 #[strV (bodyL x)] W fun e w' => e = .returned (.tuple #[(clR (bodyL x)).val, .bool true]) ∧ Below W.heap.size W w') := hide (fun W hW => by have := CL.out W hW; unfold ClPost at this; rw [ok1] at this; exact this)
      rw [ok2] at CU
      clear hp ny CL ok1 ok2 hdr hxm hpre ha hc Y lb lx
      generalize clR (bodyL x) = c0 at *
      generalize bodyL x = bd at *
      obtain ⟨i0, hi0, hz0, hz1, hz2⟩ := info_parts cls_info
      gi_wp2_with fail
      refine ⟨trivial, (CallsIn.inRound l' (callsIn_wide.2 (CU.out _))).mono ?_⟩
      rintro e w2 ⟨rfl, rfl⟩
      gi_wp2_with fail
      refine ⟨trivial, (CallsIn.inRound l' (callsIn_wide.2 (CL2.out _ (HT.out.below YH.out.own.1)))).mono ?_⟩
      rintro e w3 ⟨rfl, hb⟩
      have Y3 := (YH.out.to hb).alloc (.cells #[.string c0.nm, .int .i64 c0.se, .int .i64 c0.we, .int .i64 c0.ro, .int .i64 c0.dr] 57)
      have hb3 : Below W'.heap.size W' (w3.alloc (.cells #[.string c0.nm, .int .i64 c0.se, .int .i64 c0.we, .int .i64 c0.ro, .int .i64 c0.dr] 57)) := hb.alloc hb.size _
      have BC := (Blk.new w3 57 #[.string c0.nm, .int .i64 c0.se, .int .i64 c0.we, .int .i64 c0.ro, .int .i64 c0.dr]).rules
      have hr := Y3.own.r2
      have Y3H := hide Y3
      have B3H := hide hb3
      clear Y3 hb hb3 CU CL2
      have la : acc.length ≤ 900001 := by have := AL.out.1; omega
      have f1 : acc.length + 1 ≤ maxLen := by unfold maxLen; omega
      have f2 : (acc.length + 1) * 48 ≤ 140737488355328 := by omega
      have f3 : W.heap.size ≤ ((w3.alloc (.cells #[.string c0.nm, .int .i64 c0.se, .int .i64 c0.we, .int .i64 c0.ro, .int .i64 c0.dr] 57)).alloc (.cells #[.string c0.nm, .int .i64 c0.se, .int .i64 c0.we, .int .i64 c0.ro, .int .i64 c0.dr] 57)).heap.size := by have := Y3H.out.b2.1; simp at this ⊢; omega
      have f4 : ∀ u ∈ ([.string c0.nm, .int .i64 c0.se, .int .i64 c0.we, .int .i64 c0.ro, .int .i64 c0.dr] : List Value), u.oneCell' = true := by intro u hu; simp at hu; rcases hu with rfl | rfl | rfl | rfl | rfl <;> rfl
      gi_wp2_with (gi_at_builtin; refine wpListIn_append_formG _ rfl _ _ 49 rfl W.heap.size 57 i0 (.agg #[.string ⟨#[]⟩, .int .i64 0, .int .i64 0, .int .i64 0, .int .i64 0]) 5 48 Tryz.underlying49 hi0 hz0 hz1 hz2 rfl (by decide) _ acc.length (flatC acc) rfl (Y3H.out.row.alloc (.cells #[.string c0.nm, .int .i64 c0.se, .int .i64 c0.we, .int .i64 c0.ro, .int .i64 c0.dr] 57)) ⟨w3.heap.size + 1, 0, none⟩ 1 1 [.string c0.nm, .int .i64 c0.se, .int .i64 c0.we, .int .i64 c0.ro, .int .i64 c0.dr] rfl rfl (World.news_of_block (cs := #[.string c0.nm, .int .i64 c0.se, .int .i64 c0.we, .int .i64 c0.ro, .int .i64 c0.dr]) (t := 57) (fr := (0, 0)) (heap_new_atG (World.size_alloc _ _))) f4 (by decide) f1 f2 f3 ?_; intro gg cp w4 hown4 hgrow; have hr4 := ((Y3H.out.alloc (.cells #[.string c0.nm, .int .i64 c0.se, .int .i64 c0.we, .int .i64 c0.ro, .int .i64 c0.dr] 57)).grown hgrow).r2)
      have Y5 := (Y3H.out.alloc (.cells #[.string c0.nm, .int .i64 c0.se, .int .i64 c0.we, .int .i64 c0.ro, .int .i64 c0.dr] 57)).app (xs4 := flatC (acc ++ [c0])) (by rw [flatC_append]; exact hown4) hgrow
      have Y6 := Grw.turnR (R1 := []) Y5 (by omega) (fun x hx => by
        simp only [List.nil_append, List.mem_cons, List.not_mem_nil, or_false] at hx
        rcases hx with rfl | rfl | rfl
        all_goals dsimp only
        all_goals omega) 0 (.int .i64 ((pre.length : Int) + 1 + 1)) rfl
      have K1 := (((others_below B3H.out).trans (KeepsOthers.alloc _ (.cells #[.string c0.nm, .int .i64 c0.se, .int .i64 c0.we, .int .i64 c0.ro, .int .i64 c0.dr] 57))).trans ((Y3H.out.alloc (.cells #[.string c0.nm, .int .i64 c0.se, .int .i64 c0.we, .int .i64 c0.ro, .int .i64 c0.dr] 57)).others hgrow (v4 := .slice (some ⟨gg, 0, none⟩) (acc.length + 1) cp))).trans (KeepsOthers.setCell _ ⟨w.heap.size + 1 + 1 + 1 + 1, 0, none⟩ (.int .i64 ((pre.length : Int) + 1 + 1)))
      have BW : w.heap.size + 1 + 1 + 1 + 1 + 1 < W'.heap.size := by have := YH.out.b2.1; omega
      have K2 := (Below.heap_setCell _ ⟨w.heap.size + 1 + 1 + 1 + 1, 0, none⟩ (.int .i64 ((pre.length : Int) + 1 + 1)) (w.heap.size + 1 + 1 + 1 + 1 + 1) (show w.heap.size + 1 + 1 + 1 + 1 + 1 ≠ w.heap.size + 1 + 1 + 1 + 1 by omega)).trans (((Y3H.out.alloc (.cells #[.string c0.nm, .int .i64 c0.se, .int .i64 c0.we, .int .i64 c0.ro, .int .i64 c0.dr] 57)).kept hgrow (v4 := .slice (some ⟨gg, 0, none⟩) (acc.length + 1) cp) (k := w.heap.size + 1 + 1 + 1 + 1 + 1) (by omega) (by omega)).trans (((Below.refl _ _).alloc (Nat.le_refl _) (.cells #[.string c0.nm, .int .i64 c0.se, .int .i64 c0.we, .int .i64 c0.ro, .int .i64 c0.dr] 57) |>.block _ (Nat.lt_of_lt_of_le BW B3H.out.size)).trans (B3H.out.block _ BW)))
      have el : pre.length + 1 = (pre ++ [x]).length := by simp
      have el2 : acc.length + 1 = (acc ++ [c0]).length := by simp
      refine ⟨K1.from _, K2, PRE.out, acc ++ [c0], .slice (some ⟨gg, 0, none⟩) (acc.length + 1) cp, by rw [← el, ← el2, AL.out.1], fun c hcm => ?_, by rw [HP.out, ← el], ?_⟩
      · rcases List.mem_append.1 hcm with h | h
        · exact AL.out.2 c h
        · rw [List.mem_singleton.1 h]; exact hcr.out
      · rw [← el, ← el2]
        exact Y6
    · rw [if_neg hok] at hp
      have HP := hide hp
      have CL2 : Hid (∀ W, TxtW W → Calls Tryz.prog 39 #[strV (bodyL x)] W fun e w' => e = .returned (.tuple #[(clR (bodyL x)).val, .bool (clB (bodyL x))]) ∧ Below W.heap.size W w') := hide (fun W hW => CL.out W hW)
      have oc : (clB (bodyL x) = true ∧ endB x = false) ∨ (clB (bodyL x) = false ∧ endB x = false) ∨ (clB (bodyL x) = false ∧ endB x = true) := by
        cases h1 : clB (bodyL x) <;> cases h2 : endB x <;> simp [h1, h2] at hok ⊢
      clear hp ny CL hdr hxm hpre ha hc Y lb lx hok
      generalize clR (bodyL x) = c0 at *
      generalize clB (bodyL x) = ok at *
      generalize bodyL x = bd at *
      generalize endB x = en at *
      rcases oc with ⟨rfl, rfl⟩ | ⟨rfl, rfl⟩ | ⟨rfl, rfl⟩
      all_goals
        gi_wp2_with fail
        refine ⟨trivial, (CallsIn.inRound l' (callsIn_wide.2 (CU.out _))).mono ?_⟩
        rintro e w2 ⟨rfl, rfl⟩
        gi_wp2_with fail
        refine ⟨trivial, (CallsIn.inRound l' (callsIn_wide.2 (CL2.out _ (HT.out.below YH.out.own.1)))).mono ?_⟩
        rintro e w3 ⟨rfl, hb⟩
        have Y3 := (YH.out.to hb).alloc (.cells #[.string c0.nm, .int .i64 c0.se, .int .i64 c0.we, .int .i64 c0.ro, .int .i64 c0.dr] 57)
        have hb3 : Below W'.heap.size W' (w3.alloc (.cells #[.string c0.nm, .int .i64 c0.se, .int .i64 c0.we, .int .i64 c0.ro, .int .i64 c0.dr] 57)) := hb.alloc hb.size _
        have hr := Y3.own.r5
        have Y3H := hide Y3
        have B3H := hide hb3
        clear Y3 hb hb3 CU CL2
        gi_wp2
        gi_region
        all_goals
          gi_wp2
          have Y5 := (Y3H.out.three (by omega) (by omega) (.slice none 0 0) (.int .i64 ((pre.length : Int) + 1)) (.int .i64 1) (.int .i64 7)).drew
          have K1 := ((others_below B3H.out).trans (others_four _ ⟨w.heap.size, 0, none⟩ ⟨w.heap.size + 1, 0, none⟩ ⟨w.heap.size + 1, 1, none⟩ ⟨w.heap.size + 1 + 1, 0, none⟩ (.slice none 0 0) (.int .i64 ((pre.length : Int) + 1)) (.int .i64 1) (.int .i64 7)))
          exact ⟨(K1.trans (KeepsOthers.drew _)).from _, rfl, pre.length, acc.length, v, flatC acc, HP.out, Y5⟩
  case done =>
    rintro D W' hD ⟨_, acc, v, ha, hc, hp, Y⟩ hK
    rw [List.drop_length, prsL] at hp
    have HP := hide hp
    have la : acc.length ≤ 900001 := by omega
    have KH := hide hK
    obtain ⟨A', cp, rfl, hsl, hcp⟩ := ClsSl.of_row Y.row (by unfold maxLen; omega) (fun i h => hc _ (List.getElem_mem h))
    have V := hide (fun W h => luvalid_any acc A' cp W h)
    have SL := hide hsl
    have hr := Y.own.r5
    have YH := hide Y
    have HCP := hide (And.intro hcp hc)
    clear hp hK hsl Y ha hc hcp
    gi_wp2_with fail
    refine ⟨trivial, (callsIn_wide.2 (V.out _ SL.out)).mono ?_⟩
    rintro e w3 ⟨rfl, hb⟩
    have Y3 := YH.out.to hb
    clear hr
    have hr := Y3.own.r5
    have Y3H := hide Y3
    have KB : Hid (w3.heap[D]? = some (.deferred (some []))) := hide ((others_below hb).same D _ KH.out rfl)
    clear Y3 hb V
    rcases Bool.eq_false_or_eq_true (validB acc) with hv | hv
    · have E : Hid (prsF s = (acc, 0, 0)) := hide (by rw [EF.out, HP.out]; unfold doneL doneE; rw [hv]; rfl)
      rw [hv]
      gi_wp2
      have Y5 := Y3H.out.three (by omega) (by omega) (.slice A' acc.length cp) (.int .i64 0) (.int .i64 0) (.int .i64 0)
      have K5 := (others_four w3 ⟨w.heap.size, 0, none⟩ ⟨w.heap.size + 1, 0, none⟩ ⟨w.heap.size + 1, 1, none⟩ ⟨w.heap.size + 1 + 1, 0, none⟩ (.slice A' acc.length cp) (.int .i64 0) (.int .i64 0) (.int .i64 0)).same D _ KB.out rfl
      have Y6 := Y5.taken hD K5
      have Y6H := hide Y6
      clear Y5 Y6
      refine ⟨by simp, .inl ⟨_, _, rfl, run_takeDeferred K5, ?_⟩⟩
      refine ⟨.tuple #[.slice A' acc.length cp, .agg #[.int .i64 0, .int .i64 0], .int .i64 0], ?_, ?_⟩
      · have hr2 := Y6H.out.own.r5
        clear hr
        simp [results, Tryz.results19, hr2, go_sem]
      · obtain ⟨A2, cp2, e2, hsl2, _⟩ := ClsSl.of_row Y6H.out.row (by unfold maxLen; omega) (fun i h => HCP.out.2 _ (List.getElem_mem h))
        injection e2 with e2 _ e3
        subst e2
        exact ⟨Y6H.out.own.1, A', cp, by rw [E.out]; rfl, by rw [E.out]; exact hsl2, by rw [E.out]; exact HCP.out.1⟩
    · have E : Hid (prsF s = ([], 0, 1)) := hide (by rw [EF.out, HP.out]; unfold doneL doneE; rw [hv]; rfl)
      rw [hv]
      gi_wp2
      have Y5 := Y3H.out.three (by omega) (by omega) (.slice none 0 0) (.int .i64 0) (.int .i64 0) (.int .i64 1)
      have K5 := (others_four w3 ⟨w.heap.size, 0, none⟩ ⟨w.heap.size + 1, 0, none⟩ ⟨w.heap.size + 1, 1, none⟩ ⟨w.heap.size + 1 + 1, 0, none⟩ (.slice none 0 0) (.int .i64 0) (.int .i64 0) (.int .i64 1)).same D _ KB.out rfl
      have Y6 := Y5.taken hD K5
      have Y6H := hide Y6
      clear Y5 Y6
      refine ⟨by simp, .inl ⟨_, _, rfl, run_takeDeferred K5, ?_⟩⟩
      refine ⟨.tuple #[.slice none 0 0, .agg #[.int .i64 0, .int .i64 0], .int .i64 1], ?_, ?_⟩
      · have hr2 := Y6H.out.own.r5
        clear hr
        simp [results, Tryz.results19, hr2, go_sem]
      · exact PrsPost.err Y6H.out.own.1 E.out
  case stop =>
    rintro D c pre W' hD _ ⟨rfl, k, n, v, xs, hp, Y⟩ hK
    have E : Hid (prsF s = ([], (k : Int) + 1, 7)) := hide (EF.out.trans hp)
    have YH := hide Y
    gi_wp2
    refine ⟨by simp, .inl ⟨_, _, rfl, run_takeDeferred hK, ?_⟩⟩
    refine ⟨.tuple #[.slice none 0 0, .agg #[.int .i64 ((k : Int) + 1), .int .i64 1], .int .i64 7], ?_, ?_⟩
    · have hr2 := (YH.out.taken hD hK).own.r5
      simp [results, Tryz.results19, hr2, go_sem]
    · have P := PrsPost.err (YH.out.taken hD hK).own.1 E.out
      have ec : colI ((k : Int) + 1) = 1 := by unfold colI; rw [if_neg (by omega)]
      rw [ec] at P
      exact P
end Go.Proofs.YtaaadejamjbcbaaGreatDoor

namespace Go.Proofs.YtaaadejamjbcbaaGreatDoor

structure Fr where
  num : Int
  den : Int
abbrev Fr.val (a : Fr) : Value := .agg #[.int .i64 a.num, .int .i64 a.den]
def Fr.zero : Fr := ⟨0, 0⟩
theorem fr_eq {s t : Fr} (h1 : s.num = t.num) (h2 : s.den = t.den) : s = t := by cases s; cases t; simp only at h1 h2; rw [h1, h2]
theorem fr_eq_iff {s t : Fr} : s = t ↔ s.num = t.num ∧ s.den = t.den := ⟨fun h => by rw [h]; exact ⟨rfl, rfl⟩, fun h => fr_eq h.1 h.2⟩
instance : DecidableEq Fr := fun _ _ => decidable_of_iff' _ fr_eq_iff
def gF (n d : Int) : Nat := Nat.gcd n.natAbs d.natAbs
def inF (a : Fr) : Prop := 1 ≤ a.den ∧ a.den ≤ 1073741824 ∧ -1073741824 ≤ a.num ∧ a.num ≤ 1073741824
instance (a : Fr) : Decidable (inF a) := by unfold inF; exact inferInstance
def vF (a : Fr) : Bool := decide (inF a) && decide (gF a.num a.den = 1)
theorem vF_iff {a : Fr} : vF a = true ↔ inF a ∧ gF a.num a.den = 1 := by simp [vF]
def mkE (n d : Int) : Int := if d = 0 then 16 else if n.natAbs / gF n d ≤ 1073741824 ∧ d.natAbs / gF n d ≤ 1073741824 then 0 else 5
/-- the sign goes to the numerator -/
def mkN (n d : Int) : Int := if (n < 0) ↔ (d < 0) then ((n.natAbs / gF n d : Nat) : Int) else -((n.natAbs / gF n d : Nat) : Int)
def mkF (n d : Int) : Fr := if mkE n d = 0 then ⟨mkN n d, ((d.natAbs / gF n d : Nat) : Int)⟩ else Fr.zero
theorem gF_pos {n d : Int} (h : d ≠ 0) : 0 < gF n d := Nat.gcd_pos_of_pos_right _ (by omega)
theorem mkE_eq {n d : Int} (h : d ≠ 0) : mkE n d = if n.natAbs / gF n d ≤ 1073741824 ∧ d.natAbs / gF n d ≤ 1073741824 then 0 else 5 := by simp [mkE, h]
theorem mkE_zero (n : Int) : mkE n 0 = 16 := by simp [mkE]
theorem mkF_zero (n : Int) : mkF n 0 = Fr.zero := by simp [mkF, mkE]
theorem mkF_bad {n d : Int} (h : mkE n d ≠ 0) : mkF n d = Fr.zero := by simp [mkF, h]
theorem mkE_ok {n d : Int} (h : mkE n d = 0) : d ≠ 0 ∧ n.natAbs / gF n d ≤ 1073741824 ∧ d.natAbs / gF n d ≤ 1073741824 := by
  unfold mkE at h
  split at h
  · omega
  · split at h
    · exact ⟨by assumption, by assumption⟩
    · omega
/-- the greatest common divisor, and the two numbers without it -/
theorem gF_parts {n d : Int} (h : d ≠ 0) : ∃ g q p : Nat, gF n d = g ∧ 0 < g ∧ n.natAbs = q * g ∧ d.natAbs = p * g ∧ 0 < p ∧ Nat.gcd q p = 1 ∧ n.natAbs / gF n d = q ∧ d.natAbs / gF n d = p := by
  have hg := gF_pos (n := n) h
  obtain ⟨q, hq⟩ : gF n d ∣ n.natAbs := Nat.gcd_dvd_left _ _
  obtain ⟨p, hp⟩ : gF n d ∣ d.natAbs := Nat.gcd_dvd_right _ _
  have e1 : n.natAbs / gF n d = q := by rw [hq]; exact Nat.mul_div_cancel_left q hg
  have e2 : d.natAbs / gF n d = p := by rw [hp]; exact Nat.mul_div_cancel_left p hg
  refine ⟨gF n d, q, p, rfl, hg, by rw [hq, Nat.mul_comm], by rw [hp, Nat.mul_comm], ?_, ?_, e1, e2⟩
  · rcases Nat.eq_zero_or_pos p with h0 | h0
    · subst h0; simp at hp; exact absurd hp h
    · exact h0
  · have := Nat.gcd_div_gcd_div_gcd_of_pos_right (n := n.natAbs) (m := d.natAbs) (by omega)
    unfold gF at e1 e2
    rw [e1, e2] at this
    exact this
theorem mk_spec {n d : Int} (h : mkE n d = 0) : vF (mkF n d) = true ∧ (mkF n d).num * d = n * (mkF n d).den ∧ 0 < (mkF n d).den := by
  obtain ⟨h0, h1, h2⟩ := mkE_ok h
  obtain ⟨g, q, p, eg, hg, eq, ep, hp, hc, e1, e2⟩ := gF_parts (n := n) h0
  have eF : mkF n d = ⟨mkN n d, (p : Int)⟩ := by simp only [mkF, h, if_true, e2]
  rw [e1] at h1
  rw [e2] at h2
  rw [eF]
  have hN : (mkN n d).natAbs = q := by unfold mkN; rw [e1]; split <;> omega
  refine ⟨?_, ?_, by simp; omega⟩
  · refine vF_iff.2 ⟨⟨by simp; omega, by simp; omega, by simp; omega, by simp; omega⟩, ?_⟩
    simp only [gF, hN, Int.natAbs_natCast]
    exact hc
  · simp only
    unfold mkN
    rw [e1]
    have k1 : (n.natAbs : Int) = q * g := by rw [eq]; exact Int.natCast_mul _ _
    have k2 : (d.natAbs : Int) = p * g := by rw [ep]; exact Int.natCast_mul _ _
    split
    · rcases Int.lt_or_le n 0 with hn | hn <;> rcases Int.lt_or_le d 0 with hd | hd
      · have a1 : n = -(q * g) := by omega
        have a2 : d = -(p * g) := by omega
        rw [a1, a2]; grind
      · omega
      · omega
      · have a1 : n = q * g := by omega
        have a2 : d = p * g := by omega
        rw [a1, a2]; grind
    · rcases Int.lt_or_le n 0 with hn | hn <;> rcases Int.lt_or_le d 0 with hd | hd
      · omega
      · have a1 : n = -(q * g) := by omega
        have a2 : d = p * g := by omega
        rw [a1, a2]; grind
      · have a1 : n = q * g := by omega
        have a2 : d = -(p * g) := by omega
        rw [a1, a2]; grind
      · omega
theorem mk_of {a : Fr} {n d : Int} (ha : vF a = true) (hd : d ≠ 0) (he : n * a.den = a.num * d) : mkE n d = 0 ∧ mkF n d = a := by
  obtain ⟨⟨b1, b2, b3, b4⟩, hc⟩ := vF_iff.1 ha
  obtain ⟨g, q, p, eg, hg, eq, ep, hp, hq, e1, e2⟩ := gF_parts (n := n) hd
  unfold gF at hc
  have hn : n.natAbs * a.den.natAbs = a.num.natAbs * d.natAbs := by rw [← Int.natAbs_mul, he, Int.natAbs_mul]
  rw [eq, ep] at hn
  have hn2 : q * a.den.natAbs = a.num.natAbs * p := by
    have : g * (q * a.den.natAbs) = g * (a.num.natAbs * p) := by grind
    exact Nat.eq_of_mul_eq_mul_left hg this
  -- p and the denominator divide one another
  have d1 : p ∣ a.den.natAbs := by
    have : p ∣ q * a.den.natAbs := ⟨a.num.natAbs, by rw [hn2, Nat.mul_comm]⟩
    exact Nat.Coprime.dvd_of_dvd_mul_left (by rw [Nat.coprime_iff_gcd_eq_one, Nat.gcd_comm]; exact hq) this
  have d2 : a.den.natAbs ∣ p := by
    have : a.den.natAbs ∣ a.num.natAbs * p := ⟨q, by rw [← hn2, Nat.mul_comm]⟩
    exact Nat.Coprime.dvd_of_dvd_mul_left (by rw [Nat.coprime_iff_gcd_eq_one, Nat.gcd_comm]; exact hc) this
  have ed : p = a.den.natAbs := Nat.dvd_antisymm d1 d2
  have en : q = a.num.natAbs := by
    rw [ed] at hn2
    exact Nat.eq_of_mul_eq_mul_right (by omega) hn2
  have h0 : mkE n d = 0 := by rw [mkE_eq hd, e1, e2, if_pos]; omega
  refine ⟨h0, ?_⟩
  simp only [mkF, h0, if_true, e2]
  refine fr_eq ?_ (by simp only; omega)
  simp only
  unfold mkN
  rw [e1]
  have sgn : (a.num < 0 → ¬ ((n < 0) ↔ (d < 0))) ∧ (0 < a.num → ((n < 0) ↔ (d < 0))) := by
    have hden : 0 < a.den := by omega
    constructor
    · intro hneg hiff
      rcases Int.lt_or_le d 0 with hd' | hd'
      · have hn' : n < 0 := hiff.2 hd'
        have x1 : n * a.den < 0 := Int.mul_neg_of_neg_of_pos hn' hden
        have x2 : 0 < a.num * d := Int.mul_pos_of_neg_of_neg hneg hd'
        omega
      · have hn' : ¬ n < 0 := fun h => by have := hiff.1 h; omega
        have x1 : 0 ≤ n * a.den := Int.mul_nonneg (by omega) (by omega)
        have x2 : a.num * d < 0 := Int.mul_neg_of_neg_of_pos hneg (by omega)
        omega
    · intro hpos
      rcases Int.lt_or_le d 0 with hd' | hd'
      · have x2 : a.num * d < 0 := Int.mul_neg_of_pos_of_neg hpos hd'
        refine ⟨fun _ => hd', fun _ => ?_⟩
        rcases Int.lt_or_le n 0 with hn' | hn'
        · exact hn'
        · have x1 : 0 ≤ n * a.den := Int.mul_nonneg hn' (by omega)
          omega
      · have x2 : 0 < a.num * d := Int.mul_pos hpos (by omega)
        refine ⟨fun hn' => ?_, fun h => by omega⟩
        have x1 : n * a.den < 0 := Int.mul_neg_of_neg_of_pos hn' hden
        omega
  split
  · rename_i hs
    have : ¬ a.num < 0 := fun h => sgn.1 h hs
    omega
  · rename_i hs
    have : ¬ 0 < a.num := fun h => hs (sgn.2 h)
    omega
theorem vF_unique {x y : Fr} (hx : vF x = true) (hy : vF y = true) (h : x.num * y.den = y.num * x.den) : x = y := by
  have b := (vF_iff.1 hx).1.1
  have h1 := (mk_of (n := x.num) (d := x.den) hy (by omega) h).2
  have h2 := (mk_of (n := x.num) (d := x.den) hx (by omega) rfl).2
  rw [← h1, h2]
theorem vF_mk {n d : Int} : vF (mkF n d) = decide (mkE n d = 0) := by
  by_cases h : mkE n d = 0
  · simp [h, (mk_spec h).1]
  · rw [mkF_bad h]; simp [h, vF, inF, Fr.zero]
theorem vF_zero : vF Fr.zero = false := by simp [vF, inF, Fr.zero]
/-- the reference's way to say which fractions are valid -/
theorem vF_ref {a : Fr} (h : inF a) : vF a = decide (mkF a.num a.den = a) := by
  have b := h.1
  by_cases hv : vF a = true
  · rw [hv]; simp [(mk_of hv (by omega) rfl).2]
  · have hv' : vF a = false := by simpa using hv
    rw [hv']
    symm
    simp only [decide_eq_false_iff_not]
    intro e
    by_cases h0 : mkE a.num a.den = 0
    · rw [← e] at hv
      exact hv (mk_spec h0).1
    · rw [mkF_bad h0] at e
      rw [← e] at b
      simp [Fr.zero] at b
def negF (a : Fr) : Fr := ⟨-a.num, a.den⟩
theorem vF_neg (a : Fr) : vF (negF a) = vF a := by
  have : inF (negF a) ↔ inF a := by simp only [inF, negF]; omega
  simp only [vF, gF, negF, Int.natAbs_neg]
  simp only [inF, negF] at *
  congr 1
  exact decide_eq_decide.2 this
def op2F (a b : Fr) (n d : Int) : Fr := if vF a = true ∧ vF b = true then mkF n d else Fr.zero
def op2E (a b : Fr) (n d : Int) : Int := if vF a = true ∧ vF b = true then mkE n d else 1
def addF (a b : Fr) : Fr := op2F a b (a.num * b.den + b.num * a.den) (a.den * b.den)
def addE (a b : Fr) : Int := op2E a b (a.num * b.den + b.num * a.den) (a.den * b.den)
def subF (a b : Fr) : Fr := op2F a b (a.num * b.den - b.num * a.den) (a.den * b.den)
def subE (a b : Fr) : Int := op2E a b (a.num * b.den - b.num * a.den) (a.den * b.den)
def mulF (a b : Fr) : Fr := op2F a b (a.num * b.num) (a.den * b.den)
def mulE (a b : Fr) : Int := op2E a b (a.num * b.num) (a.den * b.den)
def divF (a b : Fr) : Fr := op2F a b (a.num * b.den) (a.den * b.num)
def divE (a b : Fr) : Int := op2E a b (a.num * b.den) (a.den * b.num)
theorem op2_ok {a b : Fr} {n d : Int} (h : op2E a b n d = 0) : vF a = true ∧ vF b = true ∧ mkE n d = 0 ∧ op2F a b n d = mkF n d := by
  unfold op2E at h
  split at h
  · rename_i hv
    exact ⟨hv.1, hv.2, h, by simp [op2F, hv]⟩
  · omega
theorem op2_bad {a b : Fr} {n d : Int} (h : op2E a b n d ≠ 0) : op2F a b n d = Fr.zero := by
  unfold op2E at h
  unfold op2F
  split
  · rename_i hv
    rw [if_pos hv] at h
    exact mkF_bad h
  · rfl
theorem op2_vF {a b : Fr} {n d : Int} : vF (op2F a b n d) = decide (op2E a b n d = 0) := by
  unfold op2F op2E
  split
  · exact vF_mk
  · simp [vF_zero]
theorem op2_spec {a b : Fr} {n d : Int} (h : op2E a b n d = 0) : vF a = true ∧ vF b = true ∧ vF (op2F a b n d) = true ∧ (op2F a b n d).num * d = n * (op2F a b n d).den ∧ 0 < (op2F a b n d).den := by
  obtain ⟨h1, h2, h3, h4⟩ := op2_ok h
  rw [h4]
  exact ⟨h1, h2, mk_spec h3⟩
theorem op2_of {a b x : Fr} {n d : Int} (ha : vF a = true) (hb : vF b = true) (hx : vF x = true) (hd : d ≠ 0) (he : n * x.den = x.num * d) : op2E a b n d = 0 ∧ op2F a b n d = x := by
  have h := mk_of hx hd he
  simp [op2E, op2F, ha, hb, h]
theorem vF_den {a : Fr} (h : vF a = true) : 0 < a.den := by have := (vF_iff.1 h).1.1; omega
/-- sums and products do not depend on the order -/
theorem add_comm_ (a b : Fr) : addF a b = addF b a := by
  simp only [addF, op2F]
  rw [show a.num * b.den + b.num * a.den = b.num * a.den + a.num * b.den by omega, Int.mul_comm a.den]
  by_cases h : vF a = true <;> by_cases h' : vF b = true <;> simp [h, h']
theorem mul_comm_ (a b : Fr) : mulF a b = mulF b a := by
  simp only [mulF, op2F]
  rw [Int.mul_comm a.num, Int.mul_comm a.den]
  by_cases h : vF a = true <;> by_cases h' : vF b = true <;> simp [h, h']
theorem nz_ok {a b : Fr} {n d : Int} (h : op2F a b n d ≠ Fr.zero) : op2E a b n d = 0 := Classical.byContradiction fun h' => h (op2_bad h')
theorem ring1 {a b c : Fr} (h1 : addF (addF a b) c ≠ Fr.zero) (h2 : addF a (addF b c) ≠ Fr.zero) : addF (addF a b) c = addF a (addF b c) := by
  obtain ⟨a1, a2, a3, a4, a5⟩ := op2_spec (nz_ok h1)
  obtain ⟨b1, b2, b3, b4, b5⟩ := op2_spec (nz_ok h2)
  have s1 : addE a b = 0 := by have := op2_vF.symm.trans a1; exact of_decide_eq_true this
  have s2 : addE b c = 0 := by have := op2_vF.symm.trans b2; exact of_decide_eq_true this
  obtain ⟨c1, c2, c3, c4, c5⟩ := op2_spec s1
  obtain ⟨d1, d2, d3, d4, d5⟩ := op2_spec s2
  have k1 := vF_den c1
  have k2 := vF_den c2
  have k3 := vF_den a2
  change (addF a b).num * _ = _ * (addF a b).den at c4
  change 0 < (addF a b).den at c5
  change (addF b c).num * _ = _ * (addF b c).den at d4
  change 0 < (addF b c).den at d5
  change (addF (addF a b) c).num * _ = _ * (addF (addF a b) c).den at a4
  change (addF a (addF b c)).num * _ = _ * (addF a (addF b c)).den at b4
  refine vF_unique a3 b3 ?_
  change (addF (addF a b) c).num * (addF a (addF b c)).den = (addF a (addF b c)).num * (addF (addF a b) c).den
  generalize addF (addF a b) c = t at *
  generalize addF a (addF b c) = u at *
  generalize addF a b = s at *
  generalize addF b c = r at *
  have kk : s.den * r.den * (a.den * b.den * c.den) ≠ 0 := Int.mul_ne_zero (Int.mul_ne_zero (by omega) (by omega)) (Int.mul_ne_zero (Int.mul_ne_zero (by omega) (by omega)) (by omega))
  have t1 : s.den * (t.num * (a.den * b.den * c.den)) = s.den * ((a.num * b.den * c.den + b.num * a.den * c.den + c.num * a.den * b.den) * t.den) := by
    clear kk b4 d4; grind
  have t2 : r.den * (u.num * (a.den * b.den * c.den)) = r.den * ((a.num * b.den * c.den + b.num * a.den * c.den + c.num * a.den * b.den) * u.den) := by
    clear kk a4 c4 t1; grind
  have t1 := Int.eq_of_mul_eq_mul_left (by omega) t1
  have t2 := Int.eq_of_mul_eq_mul_left (by omega) t2
  have k4 : a.den * b.den * c.den ≠ 0 := Int.mul_ne_zero (Int.mul_ne_zero (by omega) (by omega)) (by omega)
  refine Int.eq_of_mul_eq_mul_left k4 ?_
  clear a4 b4 c4 d4 kk k4
  grind
theorem ring2 {a b c : Fr} (h1 : mulF (mulF a b) c ≠ Fr.zero) (h2 : mulF a (mulF b c) ≠ Fr.zero) : mulF (mulF a b) c = mulF a (mulF b c) := by
  obtain ⟨a1, a2, a3, a4, a5⟩ := op2_spec (nz_ok h1)
  obtain ⟨b1, b2, b3, b4, b5⟩ := op2_spec (nz_ok h2)
  have s1 : mulE a b = 0 := by have := op2_vF.symm.trans a1; exact of_decide_eq_true this
  have s2 : mulE b c = 0 := by have := op2_vF.symm.trans b2; exact of_decide_eq_true this
  obtain ⟨c1, c2, c3, c4, c5⟩ := op2_spec s1
  obtain ⟨d1, d2, d3, d4, d5⟩ := op2_spec s2
  have k1 := vF_den c1
  have k2 := vF_den c2
  have k3 := vF_den a2
  change (mulF a b).num * _ = _ * (mulF a b).den at c4
  change 0 < (mulF a b).den at c5
  change (mulF b c).num * _ = _ * (mulF b c).den at d4
  change 0 < (mulF b c).den at d5
  change (mulF (mulF a b) c).num * _ = _ * (mulF (mulF a b) c).den at a4
  change (mulF a (mulF b c)).num * _ = _ * (mulF a (mulF b c)).den at b4
  refine vF_unique a3 b3 ?_
  change (mulF (mulF a b) c).num * (mulF a (mulF b c)).den = (mulF a (mulF b c)).num * (mulF (mulF a b) c).den
  generalize mulF (mulF a b) c = t at *
  generalize mulF a (mulF b c) = u at *
  generalize mulF a b = s at *
  generalize mulF b c = r at *
  have t1 : s.den * (t.num * (a.den * b.den * c.den)) = s.den * ((a.num * b.num * c.num) * t.den) := by
    clear b4 d4; grind
  have t2 : r.den * (u.num * (a.den * b.den * c.den)) = r.den * ((a.num * b.num * c.num) * u.den) := by
    clear a4 c4 t1; grind
  have t1 := Int.eq_of_mul_eq_mul_left (by omega) t1
  have t2 := Int.eq_of_mul_eq_mul_left (by omega) t2
  have k4 : a.den * b.den * c.den ≠ 0 := Int.mul_ne_zero (Int.mul_ne_zero (by omega) (by omega)) (by omega)
  refine Int.eq_of_mul_eq_mul_left k4 ?_
  clear a4 b4 c4 d4 k4
  grind
theorem ring3 {a b c : Fr} (h1 : mulF a (addF b c) ≠ Fr.zero) (h2 : addF (mulF a b) (mulF a c) ≠ Fr.zero) : mulF a (addF b c) = addF (mulF a b) (mulF a c) := by
  obtain ⟨a1, a2, a3, a4, a5⟩ := op2_spec (nz_ok h1)
  obtain ⟨b1, b2, b3, b4, b5⟩ := op2_spec (nz_ok h2)
  have s1 : addE b c = 0 := by have := op2_vF.symm.trans a2; exact of_decide_eq_true this
  have s2 : mulE a b = 0 := by have := op2_vF.symm.trans b1; exact of_decide_eq_true this
  have s3 : mulE a c = 0 := by have := op2_vF.symm.trans b2; exact of_decide_eq_true this
  obtain ⟨c1, c2, c3, c4, c5⟩ := op2_spec s1
  obtain ⟨d1, d2, d3, d4, d5⟩ := op2_spec s2
  obtain ⟨e1, e2, e3, e4, e5⟩ := op2_spec s3
  have k1 := vF_den d1
  have k2 := vF_den c1
  have k3 := vF_den c2
  change (addF b c).num * _ = _ * (addF b c).den at c4
  change 0 < (addF b c).den at c5
  change (mulF a b).num * _ = _ * (mulF a b).den at d4
  change 0 < (mulF a b).den at d5
  change (mulF a c).num * _ = _ * (mulF a c).den at e4
  change 0 < (mulF a c).den at e5
  change (mulF a (addF b c)).num * _ = _ * (mulF a (addF b c)).den at a4
  change (addF (mulF a b) (mulF a c)).num * _ = _ * (addF (mulF a b) (mulF a c)).den at b4
  refine vF_unique a3 b3 ?_
  change (mulF a (addF b c)).num * (addF (mulF a b) (mulF a c)).den = (addF (mulF a b) (mulF a c)).num * (mulF a (addF b c)).den
  generalize mulF a (addF b c) = t at *
  generalize addF (mulF a b) (mulF a c) = u at *
  generalize addF b c = r at *
  generalize mulF a b = p at *
  generalize mulF a c = q at *
  have t1 : r.den * (t.num * (a.den * b.den * c.den)) = r.den * (a.num * (b.num * c.den + c.num * b.den) * t.den) := by
    clear b4 d4 e4; grind
  have t2 : p.den * q.den * (a.den * (u.num * (a.den * b.den * c.den))) = p.den * q.den * (a.den * (a.num * (b.num * c.den + c.num * b.den) * u.den)) := by
    clear a4 c4 t1; grind
  have t1 := Int.eq_of_mul_eq_mul_left (by omega) t1
  have t2 := Int.eq_of_mul_eq_mul_left (Int.mul_ne_zero (by omega) (by omega)) t2
  have t2 := Int.eq_of_mul_eq_mul_left (by omega) t2
  have k4 : a.den * b.den * c.den ≠ 0 := Int.mul_ne_zero (Int.mul_ne_zero (by omega) (by omega)) (by omega)
  refine Int.eq_of_mul_eq_mul_left k4 ?_
  clear a4 b4 c4 d4 e4 k4
  grind
/-- differences undo sums, quotients products -/
theorem undo1 {a b : Fr} (h : addE a b = 0) : subE (addF a b) b = 0 ∧ subF (addF a b) b = a := by
  obtain ⟨a1, a2, a3, a4, a5⟩ := op2_spec h
  have k1 := vF_den a1
  have k2 := vF_den a2
  refine op2_of a3 a2 a1 (Int.mul_ne_zero (by change 0 < (addF a b).den at a5; change (addF a b).den ≠ 0; omega) (by omega)) ?_
  change (addF a b).num * _ = _ * (addF a b).den at a4
  change ((addF a b).num * b.den - b.num * (addF a b).den) * a.den = a.num * ((addF a b).den * b.den)
  generalize addF a b = s at *
  grind
theorem undo2 {a b : Fr} (h : mulE a b = 0) (h0 : b.num ≠ 0) : divE (mulF a b) b = 0 ∧ divF (mulF a b) b = a := by
  obtain ⟨a1, a2, a3, a4, a5⟩ := op2_spec h
  have k1 := vF_den a1
  have k2 := vF_den a2
  refine op2_of a3 a2 a1 (Int.mul_ne_zero (by change 0 < (mulF a b).den at a5; change (mulF a b).den ≠ 0; omega) h0) ?_
  change (mulF a b).num * _ = _ * (mulF a b).den at a4
  change ((mulF a b).num * b.den) * a.den = a.num * ((mulF a b).den * b.num)
  generalize mulF a b = s at *
  grind
/-- the order -/
def cmpD (a b : Fr) : Int := a.num * b.den - b.num * a.den
def cmpF (a b : Fr) : Int := if cmpD a b < 0 then -1 else if 0 < cmpD a b then 1 else 0
theorem cmp_swap (a b : Fr) : cmpF a b = -cmpF b a := by
  have e : cmpD b a = -cmpD a b := by unfold cmpD; omega
  unfold cmpF
  rw [e]
  generalize cmpD a b = x
  by_cases h : x < 0
  · rw [if_pos h, if_neg (by omega), if_pos (by omega)]
  · by_cases h' : 0 < x
    · rw [if_neg h, if_pos h', if_pos (by omega)]; rfl
    · rw [if_neg h, if_neg h', if_neg (by omega), if_neg (by omega)]; rfl
theorem cmp_zero {a b : Fr} (ha : vF a = true) (hb : vF b = true) : (cmpF a b = 0) ↔ a = b := by
  constructor
  · intro h
    refine vF_unique ha hb ?_
    have e : cmpD a b = 0 := by
      unfold cmpF at h
      generalize cmpD a b = x at *
      by_cases h1 : x < 0
      · rw [if_pos h1] at h; omega
      · by_cases h2 : 0 < x
        · rw [if_neg h1, if_pos h2] at h; omega
        · omega
    unfold cmpD at e
    omega
  · rintro rfl
    simp [cmpF, cmpD]
theorem cmp_pos {a b x y : Fr} {k m : Int} (hk : 0 < k) (hm : 0 < m) (h : k * cmpD x y = m * cmpD a b) : cmpF x y = cmpF a b := by
  unfold cmpF
  rcases Int.lt_trichotomy (cmpD a b) 0 with h1 | h1 | h1
  · have := Int.mul_neg_of_pos_of_neg hm h1
    have : cmpD x y < 0 := by
      rcases Int.lt_or_le (cmpD x y) 0 with h2 | h2
      · exact h2
      · have := Int.mul_nonneg (Int.le_of_lt hk) h2; omega
    simp [h1, this]
  · rw [h1] at h
    have : cmpD x y = 0 := by
      have e : k * cmpD x y = 0 := by rw [h]; simp
      rcases Int.mul_eq_zero.1 e with h2 | h2 <;> omega
    simp [h1, this]
  · have := Int.mul_pos hm h1
    have : 0 < cmpD x y := by
      rcases Int.lt_or_le 0 (cmpD x y) with h2 | h2
      · exact h2
      · have := Int.mul_nonpos_of_nonneg_of_nonpos (Int.le_of_lt hk) h2; omega
    rw [if_neg (by omega), if_pos this, if_neg (by omega), if_pos h1]
theorem grow1 {a b c : Fr} (h1 : addE a c = 0) (h2 : addE b c = 0) : cmpF (addF a c) (addF b c) = cmpF a b := by
  obtain ⟨a1, a2, a3, a4, a5⟩ := op2_spec h1
  obtain ⟨b1, b2, b3, b4, b5⟩ := op2_spec h2
  have k1 := vF_den a1
  have k2 := vF_den b1
  have k3 := vF_den a2
  change (addF a c).num * _ = _ * (addF a c).den at a4
  change 0 < (addF a c).den at a5
  change (addF b c).num * _ = _ * (addF b c).den at b4
  change 0 < (addF b c).den at b5
  generalize addF a c = x at *
  generalize addF b c = y at *
  refine cmp_pos (k := a.den * b.den * c.den) (m := x.den * y.den * c.den) (Int.mul_pos (Int.mul_pos k1 k2) k3) (Int.mul_pos (Int.mul_pos a5 b5) k3) ?_
  unfold cmpD
  refine Int.eq_of_mul_eq_mul_left (show c.den ≠ 0 by omega) ?_
  grind
theorem grow2 {a b c : Fr} (h1 : mulE a c = 0) (h2 : mulE b c = 0) (h0 : 0 < c.num) : cmpF (mulF a c) (mulF b c) = cmpF a b := by
  obtain ⟨a1, a2, a3, a4, a5⟩ := op2_spec h1
  obtain ⟨b1, b2, b3, b4, b5⟩ := op2_spec h2
  have k1 := vF_den a1
  have k2 := vF_den b1
  have k3 := vF_den a2
  change (mulF a c).num * _ = _ * (mulF a c).den at a4
  change 0 < (mulF a c).den at a5
  change (mulF b c).num * _ = _ * (mulF b c).den at b4
  change 0 < (mulF b c).den at b5
  generalize mulF a c = x at *
  generalize mulF b c = y at *
  refine cmp_pos (k := a.den * b.den * c.den) (m := x.den * y.den * c.num) (Int.mul_pos (Int.mul_pos k1 k2) k3) (Int.mul_pos (Int.mul_pos a5 b5) h0) ?_
  unfold cmpD
  refine Int.eq_of_mul_eq_mul_left (show c.den ≠ 0 by omega) ?_
  grind
/-- floors and ceilings -/
def flF (a : Fr) : Int := a.num / a.den
def ceF (a : Fr) : Int := -flF (negF a)
theorem fl_spec {a : Fr} (h : vF a = true) : flF a * a.den ≤ a.num ∧ a.num < (flF a + 1) * a.den ∧ -1073741824 ≤ flF a ∧ flF a ≤ 1073741824 := by
  obtain ⟨b1, b2, b3, b4⟩ := (vF_iff.1 h).1
  have h1 := Int.mul_ediv_add_emod a.num a.den
  have h2 := Int.emod_nonneg a.num (show a.den ≠ 0 by omega)
  have h3 := Int.emod_lt_of_pos a.num (show 0 < a.den by omega)
  unfold flF
  refine ⟨by grind, by grind, ?_, ?_⟩
  · refine (Int.le_ediv_iff_mul_le (by omega)).2 ?_
    have : (1073741824 : Int) * 1 ≤ 1073741824 * a.den := Int.mul_le_mul_of_nonneg_left b1 (by decide)
    omega
  · refine Int.ediv_le_of_le_mul (by omega) ?_
    have : (1073741824 : Int) * 1 ≤ 1073741824 * a.den := Int.mul_le_mul_of_nonneg_left b1 (by decide)
    omega
theorem ce_spec {a : Fr} (h : vF a = true) : a.num ≤ ceF a * a.den ∧ (ceF a - 1) * a.den < a.num ∧ -1073741824 ≤ ceF a ∧ ceF a ≤ 1073741824 := by
  have := fl_spec (a := negF a) (by rw [vF_neg]; exact h)
  unfold ceF
  simp only [negF] at *
  generalize flF ⟨-a.num, a.den⟩ = f at *
  obtain ⟨c1, c2, c3, c4⟩ := this
  refine ⟨by grind, by grind, by omega, by omega⟩
theorem floors {a : Fr} (h : vF a = true) : (flF a = ceF a ∧ a.den = 1) ∨ (flF a + 1 = ceF a ∧ 1 < a.den) := by
  obtain ⟨b1, b2, b3, b4⟩ := fl_spec h
  obtain ⟨c1, c2, c3, c4⟩ := ce_spec h
  obtain ⟨⟨d1, d2, d3, d4⟩, hg⟩ := vF_iff.1 h
  generalize flF a = f at *
  generalize ceF a = c at *
  have l1 : f ≤ c := by
    rcases Int.lt_or_le c f with x | x
    · have : c * a.den < f * a.den := Int.mul_lt_mul_of_pos_right x (by omega); omega
    · exact x
  have l2 : c < f + 2 := by
    rcases Int.lt_or_le (c - 1) (f + 1) with x | x
    · omega
    · have := Int.mul_le_mul_of_nonneg_right x (show 0 ≤ a.den by omega); omega
  have e1 : a.den = 1 → f = c := by
    intro e
    rw [e] at b1 b2 c1 c2
    omega
  have e2 : f = c → a.den = 1 := by
    intro e
    subst e
    have en : a.num = f * a.den := by omega
    have : a.den.natAbs ∣ gF a.num a.den := Nat.dvd_gcd (by rw [en, Int.natAbs_mul]; exact Nat.dvd_mul_left _ _) (Nat.dvd_refl _)
    rw [hg] at this
    have := Nat.le_of_dvd (by omega) this
    omega
  by_cases e : f = c
  · exact .inl ⟨e, e2 e⟩
  · exact .inr ⟨by omega, by have : a.den ≠ 1 := fun h => e (e1 h); omega⟩
end Go.Proofs.YtaaadejamjbcbaaGreatDoor
