/- The program's Parse of a list of classes: what it returns; nothing that was there is turned. -/
import Derived.Test.YtaaadejamjbcbaaDoorLns
import Derived.Test.YtaaadejamjbcbaaDoorClas
import Derived.Test.YtaaadejamjbcbaaDoorApIn
import Derived.Test.YtaaadejamjbcbaaDoorClRw
namespace Go.Proofs.YtaaadejamjbcbaaDoor
open Go Go.RowKit Go.Shelf

attribute [local go_sem] Oper.semAt_some

def prsF (s : List UInt8) : List Cls × Int × Int := if 262144 < s.length then ([], 0, 4) else prs (pts 10 s) 0 []
def colI (n : Int) : Int := if n = 0 then 0 else 1
def PrsPost (s : List UInt8) (w : World) (e : Ending) (w' : World) : Prop :=
  Below w.heap.size w w' ∧ ∃ (A : Option Addr) (c : Nat), e = .returned (.tuple #[.slice A (prsF s).1.length c, .agg #[.int .i64 (prsF s).2.1, .int .i64 (colI (prsF s).2.1)], .int .i64 (prsF s).2.2]) ∧ ClsSl w' A (prsF s).1 ∧ (prsF s).1.length ≤ c
theorem PrsPost.err {s : List UInt8} {w w' : World} {ln er : Int} (hb : Below w.heap.size w w') (h : prsF s = ([], ln, er)) : PrsPost s w (.returned (.tuple #[.slice none 0 0, .agg #[.int .i64 ln, .int .i64 (colI ln)], .int .i64 er])) w' := by
  refine ⟨hb, none, 0, by rw [h]; rfl, by rw [h]; exact ClsSl.nil _ _, by rw [h]; exact Nat.le_refl _⟩
set_option maxRecDepth 100000 in
set_option maxHeartbeats 4000000 in
theorem parse_any (s : List UInt8) (w : World) (hs : s.length ≤ 900000) (ht : TxtW w) : Calls Tryd.prog 23 #[strV s] w (PrsPost s w) := by
  have HT := hide ht
  clear ht
  have hs2 : (⟨s.toArray⟩ : ByteArray).size = s.length := by simp [ByteArray.size]
  have X := (((Own.start w).alloc #[.slice none 0 0] 33).alloc #[.int .i64 0, .int .i64 0] 47).alloc #[.int .i64 0] 24
  simp only [World.size_alloc] at X
  have hr := X.r3
  by_cases hbig : 262144 < s.length
  · have E : Hid (prsF s = ([], 0, 4)) := hide (by unfold prsF; rw [if_pos hbig])
    have q1 : decide ((262144 : Int) < (s.length : Int)) = true := decide_eq_true (by omega)
    clear hbig
    go_enter Tryd.func23, Tryd.ntmps23
    go_wp2
    exact bodyPost_ret (v := .tuple #[.slice none 0 0, .agg #[.int .i64 0, .int .i64 0], .int .i64 4]) (by simp [results, Tryd.results23, go_sem]) rfl (PrsPost.err (by have HX := X.1; have hz := HX.size; go_grown) E.out)
  have q1 : decide ((262144 : Int) < (s.length : Int)) = false := decide_eq_false (by omega)
  have EF : Hid (prsF s = prsL (lns s) 0 []) := hide (by unfold prsF; rw [if_neg hbig, prs_lns])
  clear hbig
  refine (callsIn_wide (n := 4)).1 ?_
  refine callsIn_of_wp_marks Tryd.func23 rfl trivial ?_ rfl
  simp only [Tryd.ntmps23, List.size_toArray, List.length_cons, List.length_nil, Nat.reduceAdd, Nat.reduceSub, Array.replicate_succ, Array.replicate_zero, List.push_toArray, List.append_toArray, List.nil_append, List.cons_append]
  gi_wp2_with fail
  refine ⟨trivial, (callsIn_wide.2 (lines_any s _)).mono ?_⟩
  rintro e w1 ⟨rfl, rfl⟩
  have hb5 : w.heap.size + 1 + 1 + 1 + 1 + 1 = w.heap.size + 5 := by omega
  replace X := ((X.alloc #[.slice none 0 0] 33).alloc #[.int .i64 1, .int .i64 1] 47).alloc #[strV s] 9
  simp only [World.size_alloc] at X
  clear hr
  gi_wp2
  generalize hW : (((((w.alloc (.cells #[.slice none 0 0] 33)).alloc (.cells #[.int .i64 0, .int .i64 0] 47)).alloc (.cells #[.int .i64 0] 24)).alloc (.cells #[.slice none 0 0] 33)).alloc (.cells #[.int .i64 1, .int .i64 1] 47)).alloc (.cells #[strV s] 9) = W at *
  have hWs : W.heap.size = w.heap.size + 6 := by rw [← hW]; simp
  clear hW
  have BX : Blk W (w.heap.size + 1 + 1 + 1 + 1 + 1) 9 #[strV s] := X.2 (_, _, _) (List.mem_cons_self ..)
  have G0 : Grw 54 33 5 w W W.heap.size (w.heap.size + 1 + 1 + 1) [(w.heap.size + 1 + 1 + 1 + 1, 47, #[.int .i64 1, .int .i64 1]), (w.heap.size + 1 + 1, 24, #[.int .i64 0]), (w.heap.size + 1, 47, #[.int .i64 0, .int .i64 0]), (w.heap.size, 33, #[.slice none 0 0])] (.slice none 0 0) 0 [] := by
    refine ⟨X.tail.swap, World.ownsRow_nil _ _ _ _, ⟨Nat.le_refl _, X.1.size, by omega⟩, ⟨by omega, fun x hx => ?_⟩, ⟨by decide, fun x hx => ?_⟩, fun x hx => ?_⟩
    all_goals
      simp only [List.mem_cons, List.not_mem_nil, or_false] at hx
      rcases hx with rfl | rfl | rfl | rfl
      all_goals dsimp only
      all_goals first | decide | omega
  have GH := hide G0
  clear X G0
  have LN := hide (fun x hx => lns_len (s := s) x hx)
  have LL := lns_length s
  refine' rangeFunc_box rfl (by decide) (gf := 56) (lb := #[.pointer (some ⟨w.heap.size + 1 + 1 + 1 + 1 + 1, 0, none⟩)]) rfl trivial (enters_of Tryd.func56 (by kernel_rfl) rfl)
    (encs := fun x : List UInt8 => #[strV x]) (Bs := w.heap.size + 1 + 1 + 1 + 1 + 1) (L := lns s) (lines_gives 3 (by decide) _ s (by omega) W BX) BX.lt (fun _ => rfl)
    (fun pre W' => pre <+: lns s ∧ ∃ acc v, acc.length = pre.length ∧ (∀ c ∈ acc, c.nm.size ≤ maxLen) ∧ prsL (lns s) 0 [] = prsL ((lns s).drop pre.length) pre.length acc ∧
      Grw 54 33 5 w W' W.heap.size (w.heap.size + 1 + 1 + 1) [(w.heap.size + 1 + 1 + 1 + 1, 47, #[.int .i64 ((pre.length : Int) + 1), .int .i64 1]), (w.heap.size + 1 + 1, 24, #[.int .i64 0]), (w.heap.size + 1, 47, #[.int .i64 0, .int .i64 0]), (w.heap.size, 33, #[.slice none 0 0])] v acc.length (flatC acc))
    (fun c _ W' => c = .ret ∧ ∃ (k n : Nat) (v : Value) (xs : List Value), prsL (lns s) 0 [] = ([], (k : Int) + 1, 7) ∧
      Grw 54 33 5 w W' W.heap.size (w.heap.size + 1 + 1 + 1) [(w.heap.size + 1 + 1 + 1 + 1, 47, #[.int .i64 ((k : Int) + 1), .int .i64 1]), (w.heap.size + 1 + 1, 24, #[.int .i64 7]), (w.heap.size + 1, 47, #[.int .i64 ((k : Int) + 1), .int .i64 1]), (w.heap.size, 33, #[.slice none 0 0])] v n xs)
    (fun _ A B row hs hg hr => by obtain ⟨h1, acc, v, h2, h3, h4, h5⟩ := hs; exact ⟨h1, acc, v, h2, h3, h4, h5.turn hg hr⟩)
    (fun _ _ A B row hs hg hr => by obtain ⟨h1, k, n, v, xs, h2, h5⟩ := hs; exact ⟨h1, k, n, v, xs, h2, h5.turn hg hr⟩)
    (fun _ A B hs hg => by
      obtain ⟨h1, acc, v, h2, h3, h4, h5⟩ := hs
      exact ⟨h1, acc, v, h2, h3, h4, h5.box hg (by omega) (by omega) (by omega) (fun x hx => by
        simp only [List.mem_cons, List.not_mem_nil, or_false] at hx
        rcases hx with rfl | rfl | rfl | rfl
        all_goals (show (_ : Nat) ≠ _; omega))⟩)
    (fun _ _ A B hs hg => by
      obtain ⟨h1, k, n, v, xs, h2, h5⟩ := hs
      exact ⟨h1, k, n, v, xs, h2, h5.box hg (by omega) (by omega) (by omega) (fun x hx => by
        simp only [List.mem_cons, List.not_mem_nil, or_false] at hx
        rcases hx with rfl | rfl | rfl | rfl
        all_goals (show (_ : Nat) ≠ _; omega))⟩)
    ⟨⟨lns s, rfl⟩, [], .slice none 0 0, rfl, (fun c hc => by simp at hc), rfl, GH.out⟩
    _ ?assign ?body ?done ?stop
  case assign =>
    intro l x W K hK
    gi_wp2
    exact hK
  case body =>
    rintro l' pre x W' hpre ⟨_, acc, v, ha, hc, hp, Y⟩
    have hxm : x ∈ lns s := hpre.subset (by simp)
    have lx := LN.out x hxm
    have lb := body_len x
    have hdr : (lns s).drop pre.length = x :: (lns s).drop (pre.length + 1) := by
      obtain ⟨t, ht⟩ := hpre
      rw [← ht]
      simp
    have hlen : pre.length + 1 ≤ s.length + 1 := by
      have := hpre.length_le
      simp at this
      omega
    rw [hdr, prsL] at hp
    have CU := hide (fun W => cutSuf_any x W (by omega))
    have lx2 : (bodyL x).length ≤ 1000000 := by omega
    have CL := hide (fun W hW => class_any (bodyL x) W lx2 hW)
    have PRE := hide hpre
    have YH := hide Y
    have AL := hide (And.intro ha hc)
    have hcr : Hid ((clR (bodyL x)).nm.size ≤ maxLen) := hide (by
      unfold clR
      split
      · rename_i h
        have hr2 := cl_back h
        have : (clC (bodyL x)).nm.size ≤ (txC (clC (bodyL x))).length := by unfold txC; simp
        rw [hr2] at this
        unfold maxLen; omega
      · unfold maxLen clZ; simp [ByteArray.size])
    have i1 := IntWalk.i64_in ((pre.length : Int) + 1) (by omega)
    have i2 := IntWalk.i64_in ((pre.length : Int) + 1 + 1) (by omega)
    have ny : clR (bodyL x) = if clB (bodyL x) = true then clC (bodyL x) else clZ := rfl
    by_cases hok : clB (bodyL x) = true ∧ endB x = true
    · rw [if_pos hok] at hp
      obtain ⟨ok1, ok2⟩ := hok
      have HP := hide hp
      rw [if_pos ok1] at ny
      rw [← ny] at HP
      have CL2 : Hid (∀ W, TxtW W → Calls Tryd.prog 43 #[strV (bodyL x)] W fun e w' => e = .returned (.tuple #[(clR (bodyL x)).val, .bool true]) ∧ Below W.heap.size W w') := hide (fun W hW => by have := CL.out W hW; unfold ClPost at this; rw [ok1] at this; exact this)
      rw [ok2] at CU
      clear hp ny CL ok1 ok2 hdr hxm hpre ha hc Y lb lx
      generalize clR (bodyL x) = c0 at *
      generalize bodyL x = bd at *
      obtain ⟨i0, hi0, hz0, hz1, hz2⟩ := info_parts cls_info
      gi_wp2_with fail
      refine ⟨trivial, (CallsIn.inRound l' (callsIn_wide.2 (CU.out _))).mono ?_⟩
      rintro e w2 ⟨rfl, rfl⟩
      gi_wp2_with fail
      refine ⟨trivial, (CallsIn.inRound l' (callsIn_wide.2 (CL2.out _ (HT.out.below YH.out.own.1)))).mono ?_⟩
      rintro e w3 ⟨rfl, hb⟩
      have Y3 := (YH.out.to hb).alloc (.cells #[.string c0.nm, .int .i64 c0.se, .int .i64 c0.we, .int .i64 c0.ro, .int .i64 c0.dr] 54)
      have hb3 : Below W'.heap.size W' (w3.alloc (.cells #[.string c0.nm, .int .i64 c0.se, .int .i64 c0.we, .int .i64 c0.ro, .int .i64 c0.dr] 54)) := hb.alloc hb.size _
      have BC := (Blk.new w3 54 #[.string c0.nm, .int .i64 c0.se, .int .i64 c0.we, .int .i64 c0.ro, .int .i64 c0.dr]).rules
      have hr := Y3.own.r2
      have Y3H := hide Y3
      have B3H := hide hb3
      clear Y3 hb hb3 CU CL2
      have la : acc.length ≤ 900001 := by have := AL.out.1; omega
      have f1 : acc.length + 1 ≤ maxLen := by unfold maxLen; omega
      have f2 : (acc.length + 1) * 48 ≤ 140737488355328 := by omega
      have f3 : W.heap.size ≤ ((w3.alloc (.cells #[.string c0.nm, .int .i64 c0.se, .int .i64 c0.we, .int .i64 c0.ro, .int .i64 c0.dr] 54)).alloc (.cells #[.string c0.nm, .int .i64 c0.se, .int .i64 c0.we, .int .i64 c0.ro, .int .i64 c0.dr] 54)).heap.size := by have := Y3H.out.b2.1; simp at this ⊢; omega
      have f4 : ∀ u ∈ ([.string c0.nm, .int .i64 c0.se, .int .i64 c0.we, .int .i64 c0.ro, .int .i64 c0.dr] : List Value), u.oneCell' = true := by intro u hu; simp at hu; rcases hu with rfl | rfl | rfl | rfl | rfl <;> rfl
      gi_wp2_with (gi_at_builtin; refine wpListIn_append_formG _ rfl _ _ 33 rfl W.heap.size 54 i0 (.agg #[.string ⟨#[]⟩, .int .i64 0, .int .i64 0, .int .i64 0, .int .i64 0]) 5 48 Tryd.underlying33 hi0 hz0 hz1 hz2 rfl (by decide) _ acc.length (flatC acc) rfl (Y3H.out.row.alloc (.cells #[.string c0.nm, .int .i64 c0.se, .int .i64 c0.we, .int .i64 c0.ro, .int .i64 c0.dr] 54)) ⟨w3.heap.size + 1, 0, none⟩ 1 1 [.string c0.nm, .int .i64 c0.se, .int .i64 c0.we, .int .i64 c0.ro, .int .i64 c0.dr] rfl rfl (World.news_of_block (cs := #[.string c0.nm, .int .i64 c0.se, .int .i64 c0.we, .int .i64 c0.ro, .int .i64 c0.dr]) (t := 54) (fr := (0, 0)) (heap_new_atG (World.size_alloc _ _))) f4 (by decide) f1 f2 f3 ?_; intro gg cp w4 hown4 hgrow; have hr4 := ((Y3H.out.alloc (.cells #[.string c0.nm, .int .i64 c0.se, .int .i64 c0.we, .int .i64 c0.ro, .int .i64 c0.dr] 54)).grown hgrow).r2)
      have Y5 := (Y3H.out.alloc (.cells #[.string c0.nm, .int .i64 c0.se, .int .i64 c0.we, .int .i64 c0.ro, .int .i64 c0.dr] 54)).app (xs4 := flatC (acc ++ [c0])) (by rw [flatC_append]; exact hown4) hgrow
      have Y6 := Grw.turnR (R1 := []) Y5 (by omega) (fun x hx => by
        simp only [List.nil_append, List.mem_cons, List.not_mem_nil, or_false] at hx
        rcases hx with rfl | rfl | rfl
        all_goals dsimp only
        all_goals omega) 0 (.int .i64 ((pre.length : Int) + 1 + 1)) rfl
      have K1 := (((others_below B3H.out).trans (KeepsOthers.alloc _ (.cells #[.string c0.nm, .int .i64 c0.se, .int .i64 c0.we, .int .i64 c0.ro, .int .i64 c0.dr] 54))).trans ((Y3H.out.alloc (.cells #[.string c0.nm, .int .i64 c0.se, .int .i64 c0.we, .int .i64 c0.ro, .int .i64 c0.dr] 54)).others hgrow (v4 := .slice (some ⟨gg, 0, none⟩) (acc.length + 1) cp))).trans (KeepsOthers.setCell _ ⟨w.heap.size + 1 + 1 + 1 + 1, 0, none⟩ (.int .i64 ((pre.length : Int) + 1 + 1)))
      have BW : w.heap.size + 1 + 1 + 1 + 1 + 1 < W'.heap.size := by have := YH.out.b2.1; omega
      have K2 := (Below.heap_setCell _ ⟨w.heap.size + 1 + 1 + 1 + 1, 0, none⟩ (.int .i64 ((pre.length : Int) + 1 + 1)) (w.heap.size + 1 + 1 + 1 + 1 + 1) (show w.heap.size + 1 + 1 + 1 + 1 + 1 ≠ w.heap.size + 1 + 1 + 1 + 1 by omega)).trans (((Y3H.out.alloc (.cells #[.string c0.nm, .int .i64 c0.se, .int .i64 c0.we, .int .i64 c0.ro, .int .i64 c0.dr] 54)).kept hgrow (v4 := .slice (some ⟨gg, 0, none⟩) (acc.length + 1) cp) (k := w.heap.size + 1 + 1 + 1 + 1 + 1) (by omega) (by omega)).trans (((Below.refl _ _).alloc (Nat.le_refl _) (.cells #[.string c0.nm, .int .i64 c0.se, .int .i64 c0.we, .int .i64 c0.ro, .int .i64 c0.dr] 54) |>.block _ (Nat.lt_of_lt_of_le BW B3H.out.size)).trans (B3H.out.block _ BW)))
      have el : pre.length + 1 = (pre ++ [x]).length := by simp
      have el2 : acc.length + 1 = (acc ++ [c0]).length := by simp
      refine ⟨K1.from _, K2, PRE.out, acc ++ [c0], .slice (some ⟨gg, 0, none⟩) (acc.length + 1) cp, by rw [← el, ← el2, AL.out.1], fun c hcm => ?_, by rw [HP.out, ← el], ?_⟩
      · rcases List.mem_append.1 hcm with h | h
        · exact AL.out.2 c h
        · rw [List.mem_singleton.1 h]; exact hcr.out
      · rw [← el, ← el2]
        exact Y6
    · rw [if_neg hok] at hp
      have HP := hide hp
      have CL2 : Hid (∀ W, TxtW W → Calls Tryd.prog 43 #[strV (bodyL x)] W fun e w' => e = .returned (.tuple #[(clR (bodyL x)).val, .bool (clB (bodyL x))]) ∧ Below W.heap.size W w') := hide (fun W hW => CL.out W hW)
      have oc : (clB (bodyL x) = true ∧ endB x = false) ∨ (clB (bodyL x) = false ∧ endB x = false) ∨ (clB (bodyL x) = false ∧ endB x = true) := by
        cases h1 : clB (bodyL x) <;> cases h2 : endB x <;> simp [h1, h2] at hok ⊢
      clear hp ny CL hdr hxm hpre ha hc Y lb lx hok
      generalize clR (bodyL x) = c0 at *
      generalize clB (bodyL x) = ok at *
      generalize bodyL x = bd at *
      generalize endB x = en at *
      rcases oc with ⟨rfl, rfl⟩ | ⟨rfl, rfl⟩ | ⟨rfl, rfl⟩
      all_goals
        gi_wp2_with fail
        refine ⟨trivial, (CallsIn.inRound l' (callsIn_wide.2 (CU.out _))).mono ?_⟩
        rintro e w2 ⟨rfl, rfl⟩
        gi_wp2_with fail
        refine ⟨trivial, (CallsIn.inRound l' (callsIn_wide.2 (CL2.out _ (HT.out.below YH.out.own.1)))).mono ?_⟩
        rintro e w3 ⟨rfl, hb⟩
        have Y3 := (YH.out.to hb).alloc (.cells #[.string c0.nm, .int .i64 c0.se, .int .i64 c0.we, .int .i64 c0.ro, .int .i64 c0.dr] 54)
        have hb3 : Below W'.heap.size W' (w3.alloc (.cells #[.string c0.nm, .int .i64 c0.se, .int .i64 c0.we, .int .i64 c0.ro, .int .i64 c0.dr] 54)) := hb.alloc hb.size _
        have hr := Y3.own.r5
        have Y3H := hide Y3
        have B3H := hide hb3
        clear Y3 hb hb3 CU CL2
        gi_wp2
        gi_region
        all_goals
          gi_wp2
          have Y5 := (Y3H.out.three (by omega) (by omega) (.slice none 0 0) (.int .i64 ((pre.length : Int) + 1)) (.int .i64 1) (.int .i64 7)).drew
          have K1 := ((others_below B3H.out).trans (others_four _ ⟨w.heap.size, 0, none⟩ ⟨w.heap.size + 1, 0, none⟩ ⟨w.heap.size + 1, 1, none⟩ ⟨w.heap.size + 1 + 1, 0, none⟩ (.slice none 0 0) (.int .i64 ((pre.length : Int) + 1)) (.int .i64 1) (.int .i64 7)))
          exact ⟨(K1.trans (KeepsOthers.drew _)).from _, rfl, pre.length, acc.length, v, flatC acc, HP.out, Y5⟩
  case done =>
    rintro D W' hD ⟨_, acc, v, ha, hc, hp, Y⟩ hK
    rw [List.drop_length, prsL] at hp
    have HP := hide hp
    have la : acc.length ≤ 900001 := by omega
    have KH := hide hK
    obtain ⟨A', cp, rfl, hsl, hcp⟩ := ClsSl.of_row Y.row (by unfold maxLen; omega) (fun i h => hc _ (List.getElem_mem h))
    have V := hide (fun W h => luvalid_any acc A' cp W h)
    have SL := hide hsl
    have hr := Y.own.r5
    have YH := hide Y
    have HCP := hide (And.intro hcp hc)
    clear hp hK hsl Y ha hc hcp
    gi_wp2_with fail
    refine ⟨trivial, (callsIn_wide.2 (V.out _ SL.out)).mono ?_⟩
    rintro e w3 ⟨rfl, hb⟩
    have Y3 := YH.out.to hb
    clear hr
    have hr := Y3.own.r5
    have Y3H := hide Y3
    have KB : Hid (w3.heap[D]? = some (.deferred (some []))) := hide ((others_below hb).same D _ KH.out rfl)
    clear Y3 hb V
    rcases Bool.eq_false_or_eq_true (validB acc) with hv | hv
    · have E : Hid (prsF s = (acc, 0, 0)) := hide (by rw [EF.out, HP.out]; unfold doneL doneE; rw [hv]; rfl)
      rw [hv]
      gi_wp2
      have Y5 := Y3H.out.three (by omega) (by omega) (.slice A' acc.length cp) (.int .i64 0) (.int .i64 0) (.int .i64 0)
      have K5 := (others_four w3 ⟨w.heap.size, 0, none⟩ ⟨w.heap.size + 1, 0, none⟩ ⟨w.heap.size + 1, 1, none⟩ ⟨w.heap.size + 1 + 1, 0, none⟩ (.slice A' acc.length cp) (.int .i64 0) (.int .i64 0) (.int .i64 0)).same D _ KB.out rfl
      have Y6 := Y5.taken hD K5
      have Y6H := hide Y6
      clear Y5 Y6
      refine ⟨by simp, .inl ⟨_, _, rfl, run_takeDeferred K5, ?_⟩⟩
      refine ⟨.tuple #[.slice A' acc.length cp, .agg #[.int .i64 0, .int .i64 0], .int .i64 0], ?_, ?_⟩
      · have hr2 := Y6H.out.own.r5
        clear hr
        simp [results, Tryd.results23, hr2, go_sem]
      · obtain ⟨A2, cp2, e2, hsl2, _⟩ := ClsSl.of_row Y6H.out.row (by unfold maxLen; omega) (fun i h => HCP.out.2 _ (List.getElem_mem h))
        injection e2 with e2 _ e3
        subst e2
        exact ⟨Y6H.out.own.1, A', cp, by rw [E.out]; rfl, by rw [E.out]; exact hsl2, by rw [E.out]; exact HCP.out.1⟩
    · have E : Hid (prsF s = ([], 0, 1)) := hide (by rw [EF.out, HP.out]; unfold doneL doneE; rw [hv]; rfl)
      rw [hv]
      gi_wp2
      have Y5 := Y3H.out.three (by omega) (by omega) (.slice none 0 0) (.int .i64 0) (.int .i64 0) (.int .i64 1)
      have K5 := (others_four w3 ⟨w.heap.size, 0, none⟩ ⟨w.heap.size + 1, 0, none⟩ ⟨w.heap.size + 1, 1, none⟩ ⟨w.heap.size + 1 + 1, 0, none⟩ (.slice none 0 0) (.int .i64 0) (.int .i64 0) (.int .i64 1)).same D _ KB.out rfl
      have Y6 := Y5.taken hD K5
      have Y6H := hide Y6
      clear Y5 Y6
      refine ⟨by simp, .inl ⟨_, _, rfl, run_takeDeferred K5, ?_⟩⟩
      refine ⟨.tuple #[.slice none 0 0, .agg #[.int .i64 0, .int .i64 0], .int .i64 1], ?_, ?_⟩
      · have hr2 := Y6H.out.own.r5
        clear hr
        simp [results, Tryd.results23, hr2, go_sem]
      · exact PrsPost.err Y6H.out.own.1 E.out
  case stop =>
    rintro D c pre W' hD _ ⟨rfl, k, n, v, xs, hp, Y⟩ hK
    have E : Hid (prsF s = ([], (k : Int) + 1, 7)) := hide (EF.out.trans hp)
    have YH := hide Y
    gi_wp2
    refine ⟨by simp, .inl ⟨_, _, rfl, run_takeDeferred hK, ?_⟩⟩
    refine ⟨.tuple #[.slice none 0 0, .agg #[.int .i64 ((k : Int) + 1), .int .i64 1], .int .i64 7], ?_, ?_⟩
    · have hr2 := (YH.out.taken hD hK).own.r5
      simp [results, Tryd.results23, hr2, go_sem]
    · have P := PrsPost.err (YH.out.taken hD hK).own.1 E.out
      have ec : colI ((k : Int) + 1) = 1 := by unfold colI; rw [if_neg (by omega)]
      rw [ec] at P
      exact P
end Go.Proofs.YtaaadejamjbcbaaDoor
