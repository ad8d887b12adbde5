/- The reference's Copy of networks: a network like it at other places; nothing that was there is turned. (Printed by gen_nc.py.) -/
import Derived.Test.YtdcdfjinbieblaaGreatDoorPkCostsLengths1
import Derived.Test.YtdcdfjinbieblaaGreatDoorPkCostsPipes21
namespace Go.Proofs.YtdcdfjinbieblaaGreatDoor
open Go Go.RowKit

theorem row_v {w : World} {base : Nat} {e : TypeId} {size n : Nat} {v : Value} {xs : List Value} (h : w.ownsRow base e size v n xs) : ∃ A c, v = .slice A n c := by
  rcases row_sl h with ⟨e, h0⟩ | ⟨g, c, e, _⟩
  · exact ⟨none, 0, by rw [e, h0]⟩
  · exact ⟨_, c, e⟩
theorem tab_out {w : World} {base : Nat} {v : Value} {l : List Knt} (h : w.ownsRow base 121 2 v (0 + l.length) ([] ++ flatKn l)) : ∃ A c, v = .slice A l.length c ∧ TabR w A c l := by
  rw [Nat.zero_add, List.nil_append] at h
  rcases row_sl h with ⟨e, h0⟩ | ⟨g, c, e, _⟩
  · have e2 : v = .slice none l.length 0 := by rw [e, h0]
    rw [e2] at h
    exact ⟨none, 0, e2, row_mono0 h⟩
  · exact ⟨_, c, e, by rw [e] at h; exact row_mono0 h⟩
/-- a network at other places, in memory -/
def NetP (nl : List Nod) (ll : List Lnk) (w : World) (e : Ending) (w' : World) : Prop := Below w.heap.size w w' ∧ ∃ (ns : List Nod) (ls : List Lnk) (A : Option Addr) (c : Nat) (B : Option Addr) (c' : Nat), e = .returned (.agg #[.slice A ns.length c, .slice B ls.length c']) ∧ NodSl w' A ns ∧ LnkSl w' B ls ∧ ls.length ≤ c' ∧ ns.map Nod.er = nl.map Nod.er ∧ ls.map Lnk.er = ll.map Lnk.er
set_option maxRecDepth 100000 in
set_option maxHeartbeats 8000000 in
theorem rcopyn_any (nl : List Nod) (A : Option Addr) (cA : Nat) (ll : List Lnk) (B : Option Addr) (cB : Nat) (w : World) (h : NodSl w A nl ∧ LnkSl w B ll) (h1 : nl.length ≤ 300) (h2 : ll.length ≤ 400) (m1 : ∀ i (hi : i < nl.length), nl[i].sh.l.length ≤ 100) (m2 : ∀ i (hi : i < ll.length), ll[i].cu.l.length ≤ 100) :
    Calls Tryz.prog 37 #[.agg #[.slice A nl.length cA, .slice B ll.length cB]] w (NetP nl ll w) := by
  have hlen1 : nl.length ≤ 9223372036854775807 := by omega
  have hlen2 : ll.length ≤ 9223372036854775807 := by omega
  have HN := hide h.1
  have HL := hide h.2
  have MN := hide m1
  have ML := hide m2
  obtain ⟨iK, hK0, hK1, hK2, hK3⟩ := info_parts knt_info
  obtain ⟨iR, hR0, hR1, hR2, hR3⟩ := info_parts nod_info
  obtain ⟨iL, hL0, hL1, hL2, hL3⟩ := info_parts lnk_info
  have X := (((Own.start w).alloc #[.slice A nl.length cA, .slice B ll.length cB] 25).alloc #[.slice none 0 0, .slice none 0 0] 25).alloc #[.slice none 0 0, .slice none 0 0] 25
  simp only [World.size_alloc] at X
  have hr := X.r3
  have C0 := hide (show Cp w _ (w.heap.size + 1 + 1) [(w.heap.size + 1, 25, #[.slice none 0 0, .slice none 0 0]), (w.heap.size, 25, #[.slice A nl.length cA, .slice B ll.length cB])] (.slice none 0 0) (.slice none 0 0) [] [] from ⟨X, World.ownsRow_nil _ _ _ _, World.ownsRow_nil _ _ _ _, fun x hx => by simp at hx, fun x hx => by simp at hx, fun x hx => by
    simp only [List.mem_cons, List.not_mem_nil, or_false] at hx
    rcases hx with rfl | rfl <;> rfl, fun x hx => by
    simp only [List.mem_cons, List.not_mem_nil, or_false] at hx
    rcases hx with rfl | rfl <;> simp <;> omega, by omega⟩)
  clear h m1 m2 X
  go_enter Tryz.func37, Tryz.ntmps37
  go_wp2
  go_loopw [4] (fun v wr => ∃ (k : Nat) (vN : Value) (ns : List Nod), k ≤ nl.length ∧ v = .int .i64 (k : Int) ∧ Hid (Cp w wr (w.heap.size + 1 + 1) [(w.heap.size + 1, 25, #[.slice none 0 0, .slice none 0 0]), (w.heap.size, 25, #[.slice A nl.length cA, .slice B ll.length cB])] vN (.slice none 0 0) ns []) ∧ Hid (ns.map Nod.er = (nl.take k).map Nod.er)) (fun v _ => nl.length - (intOf v).toNat)
  case atStart => exact ⟨0, _, [], by omega, rfl, C0, hide rfl⟩
  case round =>
    clear C0
    obtain ⟨k, vN, ns, hk, rfl, HC, EM⟩ := hrel
    have hr := HC.out.own.r3
    by_cases hlt : k < nl.length
    · obtain ⟨b, off, rfl, hbl, hat⟩ := (HN.out.below HC.out.own.1).2 (by omega)
      obtain ⟨c0, c1, c2, c3, c4, c5, c6, c7, c8⟩ := hat k hlt
      have KS := hide (fun W (hb : Below w.heap.size w W) => ((HN.out.below hb).1.2 k hlt).2)
      have NM := hide ((HN.out.1.2 k hlt).1)
      have TK := hide (show (nl.take (k + 1)).map Nod.er = (nl.take k).map Nod.er ++ [nl[k]].map Nod.er by rw [List.take_succ_eq_append_getElem hlt, List.map_append])
      have m100 := MN.out k hlt
      have len : ns.length ≤ 300 := by
        have q := congrArg List.length EM.out
        rw [List.length_map, List.length_map, List.length_take] at q
        omega
      have d1 : decide (k < nl.length) = true := decide_eq_true hlt
      have d2 : (0 : Int) ≤ (k : Int) := by omega
      have d3 : (k : Int) < (nl.length : Int) := by omega
      clear hat
      generalize nl[k] = x at *
      by_cases h0 : x.sh.l.length = 0
      · have h0' : x.sh.l = [] := List.eq_nil_of_length_eq_zero h0
        have z1 : ((x.sh.l.length : Int) == 0) = true := by rw [h0]; rfl
        replace h0 := hide h0
        have h0h := hide h0'
        clear h0'
        have XB := hide ((Own.start wr).alloc #[.string x.nm, .int .i64 x.kd, .int .i64 x.x, .int .i64 x.y, .int .i64 x.iv, .int .i64 x.gr, .slice x.sh.A x.sh.l.length x.sh.c, .bool x.pro, .int .i64 x.re] 71)
        have hrb := XB.out.r1
        have HCb := hide (HC.out.to XB.out.1)
        go_upto_region 6 with (fail)
        generalize hW : wr.alloc (.cells #[.string x.nm, .int .i64 x.kd, .int .i64 x.x, .int .i64 x.y, .int .i64 x.iv, .int .i64 x.gr, .slice x.sh.A x.sh.l.length x.sh.c, .bool x.pro, .int .i64 x.re] 71) = W1 at *
        clear hW
        have RM := hide (World.ownsRow_made (base := W1.heap.size) (e := 121) (size := 2) W1 #[] 0 (Nat.le_refl _) (Nat.zero_le _) rfl)
        have BA := hide ((Below.refl W1.heap.size W1).alloc (Nat.le_refl _) (.cells #[] 121))
        have RD := hide ((KS.out _ (HCb.out.own.1)).below BA.out).reads
        have f0 : 0 + x.sh.l.length ≤ maxLen := by unfold maxLen; omega
        have f00 : (0 + x.sh.l.length) * 16 ≤ 140737488355328 := by omega
        have f000 : W1.heap.size ≤ (W1.alloc (.cells #[] 121)).heap.size := by simp
        have fo := flatKn_one x.sh.l
        have hrc := (XB.out.alloc #[] 121).r2
        have GT := hide (fun (v5 : Value) (w5 : World) (ho : w5.ownsRow W1.heap.size 121 2 v5 (0 + x.sh.l.length) ([] ++ flatKn x.sh.l)) (hg : (W1.alloc (.cells #[] 121)).grownBy w5 (Value.slice (some ⟨W1.heap.size, 0, none⟩) 0 0).ownBlock) => And.intro (BA.out.grown hg (by simp) (fun k hk => Nat.le_of_eq (Option.some.inj (show some W1.heap.size = some k from hk)))) (tab_out ho))
        clear hrb
        go_upto_region 9 with (at_builtin; refine wpList_append_any _ rfl _ _ 48 rfl W1.heap.size 121 iK (.agg #[.int .i64 0, .int .i64 0]) 2 16 Tryz.underlying48 hK0 hK1 hK2 hK3 rfl (by decide) _ 0 [] rfl RM.out _ x.sh.A x.sh.l.length x.sh.c (flatKn x.sh.l) rfl RD.out fo f0 f00 f000 ?_; intro v5 w5 hown5 hgrow5 hor5; obtain ⟨B5, A5, cp5, rfl, T5⟩ := GT.out _ _ hown5 hgrow5; have hr5 := (XB.out.to B5).r1)
        have X5 := hide (XB.out.to B5)
        have T5h := hide T5
        clear GT RM BA RD fo hrc hown5 hgrow5 hor5 T5 B5 XB HCb f0 f00 f000
        have h0' := h0h.out
        replace h0' := hide h0'
        have X6 := hide (X5.out.set0 (Nat.le_refl _) (by simp) 6 (.slice A5 x.sh.l.length cp5))
        have X66 : Hid (Own wr ((w5.setCell ⟨wr.heap.size, 6, none⟩ (.slice A5 x.sh.l.length cp5)).setCell ⟨wr.heap.size, 6, none⟩ (.slice none 0 0)) [(wr.heap.size, 71, #[.string x.nm, .int .i64 x.kd, .int .i64 x.x, .int .i64 x.y, .int .i64 x.iv, .int .i64 x.gr, .slice none 0 0, .bool x.pro, .int .i64 x.re])]) := hide (X6.out.set0 (Nat.le_refl _) (by simp) 6 (.slice none 0 0))
        obtain ⟨W7, hW7⟩ : ∃ W7, W7 = ((w5.setCell ⟨wr.heap.size, 6, none⟩ (.slice A5 x.sh.l.length cp5)).setCell ⟨wr.heap.size, 6, none⟩ (.slice none 0 0)) := ⟨_, rfl⟩
        rw [← hW7]
        have X7 : Hid (Own wr W7 [(wr.heap.size, 71, #[.string x.nm, .int .i64 x.kd, .int .i64 x.x, .int .i64 x.y, .int .i64 x.iv, .int .i64 x.gr, .slice none 0 0, .bool x.pro, .int .i64 x.re])]) := hide (by rw [hW7]; exact X66.out)
        have T7 : Hid (TabR W7 none 0 []) := hide (World.ownsRow_nil _ _ _ _)
        clear X5 X6 X66 T5h hr5 hW7
        have C7 := hide (HC.out.to X7.out.1)
        have hr7 := X7.out.r1
        have hr8 := C7.out.own.r1
        have C8 := hide (C7.out.to ((Below.refl _ _).alloc (Nat.le_refl _) (.cells #[.string x.nm, .int .i64 x.kd, .int .i64 x.x, .int .i64 x.y, .int .i64 x.iv, .int .i64 x.gr, .slice none 0 0, .bool x.pro, .int .i64 x.re] 71)))
        have NW := hide (World.news_of_block (cs := #[.string x.nm, .int .i64 x.kd, .int .i64 x.x, .int .i64 x.y, .int .i64 x.iv, .int .i64 x.gr, .slice none 0 0, .bool x.pro, .int .i64 x.re]) (t := 71) (fr := (0, 0)) (heap_alloc_new W7 _))
        have f4 : ∀ y ∈ [.string x.nm, .int .i64 x.kd, .int .i64 x.x, .int .i64 x.y, .int .i64 x.iv, .int .i64 x.gr, .slice none 0 0, .bool x.pro, .int .i64 x.re], (y : Value).oneCell' = true := by simp [Value.oneCell']
        have f1 : ns.length + 1 ≤ maxLen := by unfold maxLen; omega
        have f2 : (ns.length + 1) * 96 ≤ 140737488355328 := by omega
        have f3 : w.heap.size ≤ (W7.alloc (.cells #[.string x.nm, .int .i64 x.kd, .int .i64 x.x, .int .i64 x.y, .int .i64 x.iv, .int .i64 x.gr, .slice none 0 0, .bool x.pro, .int .i64 x.re] 71)).heap.size := C8.out.own.1.size
        have GR := hide (fun (v6 : Value) (w6 : World) (ho : w6.ownsRow w.heap.size 71 9 v6 (ns.length + 1) (flatNd ns ++ [.string x.nm, .int .i64 x.kd, .int .i64 x.x, .int .i64 x.y, .int .i64 x.iv, .int .i64 x.gr, .slice none 0 0, .bool x.pro, .int .i64 x.re])) hg => And.intro (C8.out.node (x := ⟨x.nm, x.kd, x.x, x.y, x.iv, x.gr, ⟨[], none, 0⟩, x.pro, x.re⟩) NM.out (row_below T7.out ((Below.refl _ _).alloc (Nat.le_refl _) (.cells #[.string x.nm, .int .i64 x.kd, .int .i64 x.x, .int .i64 x.y, .int .i64 x.iv, .int .i64 x.gr, .slice none 0 0, .bool x.pro, .int .i64 x.re] 71))) ho hg) (And.intro (C8.out.own.grown C8.out.rn hg (C8.out.tys (by decide))) (row_v ho)))
        go_wp2_with (at_builtin; refine wpList_append_own _ rfl _ _ 22 rfl w.heap.size 71 iR (.agg #[.string ⟨#[]⟩, .int .i64 0, .int .i64 0, .int .i64 0, .int .i64 0, .int .i64 0, .slice none 0 0, .bool false, .int .i64 0]) 9 96 Tryz.underlying22 hR0 hR1 hR2 hR3 rfl (by decide) _ ns.length (flatNd ns) rfl C8.out.rn ⟨W7.heap.size, 0, none⟩ 1 1 [.string x.nm, .int .i64 x.kd, .int .i64 x.x, .int .i64 x.y, .int .i64 x.iv, .int .i64 x.gr, .slice none 0 0, .bool x.pro, .int .i64 x.re] rfl rfl NW.out f4 f1 f2 f3 ?_; intro v6 w6 hown6 hgrow6 hor6; have hr9 := (GR.out _ _ hown6 hgrow6).2.1.r1; obtain ⟨A6, cp6, rfl⟩ := (GR.out _ _ hown6 hgrow6).2.2)
        have G := GR.out _ _ hown6 hgrow6
        have C9 := hide G.1
        clear G GR hown6 hgrow6 hr7 hr8 NW C7 C8 T7 X7 f4
        go_roundw
        case rel => exact ⟨k + 1, _, _, by omega, by go_num, C9, hide (by rw [List.map_append, EM.out, TK.out]; unfold Nod.er; simp only [List.map_cons, List.map_nil, h0'.out])⟩
        case measure => simp [intOf]; omega
      · have z1 : ((x.sh.l.length : Int) == 0) = false := by
          cases e : ((x.sh.l.length : Int) == 0) with
          | false => rfl
          | true => exact absurd (by have := beq_iff_eq.1 e; omega) h0
        have z2 : ¬ x.sh.l = [] := fun e => h0 (by rw [e]; rfl)
        have XB := hide ((Own.start wr).alloc #[.string x.nm, .int .i64 x.kd, .int .i64 x.x, .int .i64 x.y, .int .i64 x.iv, .int .i64 x.gr, .slice x.sh.A x.sh.l.length x.sh.c, .bool x.pro, .int .i64 x.re] 71)
        have hrb := XB.out.r1
        have HCb := hide (HC.out.to XB.out.1)
        go_upto_region 6 with (fail)
        generalize hW : wr.alloc (.cells #[.string x.nm, .int .i64 x.kd, .int .i64 x.x, .int .i64 x.y, .int .i64 x.iv, .int .i64 x.gr, .slice x.sh.A x.sh.l.length x.sh.c, .bool x.pro, .int .i64 x.re] 71) = W1 at *
        clear hW
        have RM := hide (World.ownsRow_made (base := W1.heap.size) (e := 121) (size := 2) W1 #[] 0 (Nat.le_refl _) (Nat.zero_le _) rfl)
        have BA := hide ((Below.refl W1.heap.size W1).alloc (Nat.le_refl _) (.cells #[] 121))
        have RD := hide ((KS.out _ (HCb.out.own.1)).below BA.out).reads
        have f0 : 0 + x.sh.l.length ≤ maxLen := by unfold maxLen; omega
        have f00 : (0 + x.sh.l.length) * 16 ≤ 140737488355328 := by omega
        have f000 : W1.heap.size ≤ (W1.alloc (.cells #[] 121)).heap.size := by simp
        have fo := flatKn_one x.sh.l
        have hrc := (XB.out.alloc #[] 121).r2
        have GT := hide (fun (v5 : Value) (w5 : World) (ho : w5.ownsRow W1.heap.size 121 2 v5 (0 + x.sh.l.length) ([] ++ flatKn x.sh.l)) (hg : (W1.alloc (.cells #[] 121)).grownBy w5 (Value.slice (some ⟨W1.heap.size, 0, none⟩) 0 0).ownBlock) => And.intro (BA.out.grown hg (by simp) (fun k hk => Nat.le_of_eq (Option.some.inj (show some W1.heap.size = some k from hk)))) (tab_out ho))
        clear hrb
        go_upto_region 9 with (at_builtin; refine wpList_append_any _ rfl _ _ 48 rfl W1.heap.size 121 iK (.agg #[.int .i64 0, .int .i64 0]) 2 16 Tryz.underlying48 hK0 hK1 hK2 hK3 rfl (by decide) _ 0 [] rfl RM.out _ x.sh.A x.sh.l.length x.sh.c (flatKn x.sh.l) rfl RD.out fo f0 f00 f000 ?_; intro v5 w5 hown5 hgrow5 hor5; obtain ⟨B5, A5, cp5, rfl, T5⟩ := GT.out _ _ hown5 hgrow5; have hr5 := (XB.out.to B5).r1)
        have X5 := hide (XB.out.to B5)
        have T5h := hide T5
        clear GT RM BA RD fo hrc hown5 hgrow5 hor5 T5 B5 XB HCb f0 f00 f000
        have X6 : Hid (Own wr (w5.setCell ⟨wr.heap.size, 6, none⟩ (.slice A5 x.sh.l.length cp5)) [(wr.heap.size, 71, #[.string x.nm, .int .i64 x.kd, .int .i64 x.x, .int .i64 x.y, .int .i64 x.iv, .int .i64 x.gr, .slice A5 x.sh.l.length cp5, .bool x.pro, .int .i64 x.re])]) := hide (X5.out.set0 (Nat.le_refl _) (by simp) 6 (.slice A5 x.sh.l.length cp5))
        have T6 : Hid (TabR (w5.setCell ⟨wr.heap.size, 6, none⟩ (.slice A5 x.sh.l.length cp5)) A5 cp5 x.sh.l) := hide (row_set T5h.out (X5.out.2 _ (List.mem_cons_self ..)) (show (121 : Nat) ≠ 71 by decide) 6 (.slice A5 x.sh.l.length cp5))
        obtain ⟨W7, hW7⟩ : ∃ W7, W7 = (w5.setCell ⟨wr.heap.size, 6, none⟩ (.slice A5 x.sh.l.length cp5)) := ⟨_, rfl⟩
        rw [← hW7]
        have X7 : Hid (Own wr W7 [(wr.heap.size, 71, #[.string x.nm, .int .i64 x.kd, .int .i64 x.x, .int .i64 x.y, .int .i64 x.iv, .int .i64 x.gr, .slice A5 x.sh.l.length cp5, .bool x.pro, .int .i64 x.re])]) := hide (by rw [hW7]; exact X6.out)
        have T7 : Hid (TabR W7 A5 cp5 x.sh.l) := hide (by rw [hW7]; exact T6.out)
        clear X5 X6 T5h T6 hr5 hW7
        have C7 := hide (HC.out.to X7.out.1)
        have hr7 := X7.out.r1
        have hr8 := C7.out.own.r1
        have C8 := hide (C7.out.to ((Below.refl _ _).alloc (Nat.le_refl _) (.cells #[.string x.nm, .int .i64 x.kd, .int .i64 x.x, .int .i64 x.y, .int .i64 x.iv, .int .i64 x.gr, .slice A5 x.sh.l.length cp5, .bool x.pro, .int .i64 x.re] 71)))
        have NW := hide (World.news_of_block (cs := #[.string x.nm, .int .i64 x.kd, .int .i64 x.x, .int .i64 x.y, .int .i64 x.iv, .int .i64 x.gr, .slice A5 x.sh.l.length cp5, .bool x.pro, .int .i64 x.re]) (t := 71) (fr := (0, 0)) (heap_alloc_new W7 _))
        have f4 : ∀ y ∈ [.string x.nm, .int .i64 x.kd, .int .i64 x.x, .int .i64 x.y, .int .i64 x.iv, .int .i64 x.gr, .slice A5 x.sh.l.length cp5, .bool x.pro, .int .i64 x.re], (y : Value).oneCell' = true := by simp [Value.oneCell']
        have f1 : ns.length + 1 ≤ maxLen := by unfold maxLen; omega
        have f2 : (ns.length + 1) * 96 ≤ 140737488355328 := by omega
        have f3 : w.heap.size ≤ (W7.alloc (.cells #[.string x.nm, .int .i64 x.kd, .int .i64 x.x, .int .i64 x.y, .int .i64 x.iv, .int .i64 x.gr, .slice A5 x.sh.l.length cp5, .bool x.pro, .int .i64 x.re] 71)).heap.size := C8.out.own.1.size
        have GR := hide (fun (v6 : Value) (w6 : World) (ho : w6.ownsRow w.heap.size 71 9 v6 (ns.length + 1) (flatNd ns ++ [.string x.nm, .int .i64 x.kd, .int .i64 x.x, .int .i64 x.y, .int .i64 x.iv, .int .i64 x.gr, .slice A5 x.sh.l.length cp5, .bool x.pro, .int .i64 x.re])) hg => And.intro (C8.out.node (x := ⟨x.nm, x.kd, x.x, x.y, x.iv, x.gr, ⟨x.sh.l, A5, cp5⟩, x.pro, x.re⟩) NM.out (row_below T7.out ((Below.refl _ _).alloc (Nat.le_refl _) (.cells #[.string x.nm, .int .i64 x.kd, .int .i64 x.x, .int .i64 x.y, .int .i64 x.iv, .int .i64 x.gr, .slice A5 x.sh.l.length cp5, .bool x.pro, .int .i64 x.re] 71))) ho hg) (And.intro (C8.out.own.grown C8.out.rn hg (C8.out.tys (by decide))) (row_v ho)))
        go_wp2_with (at_builtin; refine wpList_append_own _ rfl _ _ 22 rfl w.heap.size 71 iR (.agg #[.string ⟨#[]⟩, .int .i64 0, .int .i64 0, .int .i64 0, .int .i64 0, .int .i64 0, .slice none 0 0, .bool false, .int .i64 0]) 9 96 Tryz.underlying22 hR0 hR1 hR2 hR3 rfl (by decide) _ ns.length (flatNd ns) rfl C8.out.rn ⟨W7.heap.size, 0, none⟩ 1 1 [.string x.nm, .int .i64 x.kd, .int .i64 x.x, .int .i64 x.y, .int .i64 x.iv, .int .i64 x.gr, .slice A5 x.sh.l.length cp5, .bool x.pro, .int .i64 x.re] rfl rfl NW.out f4 f1 f2 f3 ?_; intro v6 w6 hown6 hgrow6 hor6; have hr9 := (GR.out _ _ hown6 hgrow6).2.1.r1; obtain ⟨A6, cp6, rfl⟩ := (GR.out _ _ hown6 hgrow6).2.2)
        have G := GR.out _ _ hown6 hgrow6
        have C9 := hide G.1
        clear G GR hown6 hgrow6 hr7 hr8 NW C7 C8 T7 X7 f4
        go_roundw
        case rel => exact ⟨k + 1, _, _, by omega, by go_num, C9, hide (by rw [List.map_append, EM.out, TK.out]; rfl)⟩
        case measure => simp [intOf]; omega
    · have d1 : decide (k < nl.length) = false := decide_eq_false hlt
      obtain rfl : k = nl.length := by omega
      have EMe := hide (EM.out.trans (by rw [List.take_length]))
      clear EM
      clear hr
      have C0 := HC
      have EMn := EMe
      have hr := HC.out.own.r3
      clear HC EMe
      go_wp2
      obtain ⟨wa, rfl⟩ : ∃ z, z = wr := ⟨_, rfl⟩
      go_loopw [6] (fun v wr => ∃ (k : Nat) (vL : Value) (ls : List Lnk), k ≤ ll.length ∧ v = .int .i64 (k : Int) ∧ Hid (Cp w wr (w.heap.size + 1 + 1) [(w.heap.size + 1, 25, #[.slice none 0 0, .slice none 0 0]), (w.heap.size, 25, #[.slice A nl.length cA, .slice B ll.length cB])] vN vL ns ls) ∧ Hid (ls.map Lnk.er = (ll.take k).map Lnk.er)) (fun v _ => ll.length - (intOf v).toNat)
      case atStart => exact ⟨0, _, [], by omega, rfl, C0, hide rfl⟩
      case round =>
        clear C0
        obtain ⟨k, vL, ls, hk, rfl, HC, EM⟩ := hrel
        have hr := HC.out.own.r3
        by_cases hlt : k < ll.length
        · obtain ⟨b, off, rfl, hbl, hat⟩ := (HL.out.below HC.out.own.1).2 (by omega)
          obtain ⟨c0, c1, c2, c3, c4, c5, c6, c7, c8, c9, ca⟩ := hat k hlt
          have KS := hide (fun W (hb : Below w.heap.size w W) => ((HL.out.below hb).1.2 k hlt).2)
          have NM := hide ((HL.out.1.2 k hlt).1)
          have TK := hide (show (ll.take (k + 1)).map Lnk.er = (ll.take k).map Lnk.er ++ [ll[k]].map Lnk.er by rw [List.take_succ_eq_append_getElem hlt, List.map_append])
          have m100 := ML.out k hlt
          have len : ls.length ≤ 400 := by
            have q := congrArg List.length EM.out
            rw [List.length_map, List.length_map, List.length_take] at q
            omega
          have d1 : decide (k < ll.length) = true := decide_eq_true hlt
          have d2 : (0 : Int) ≤ (k : Int) := by omega
          have d3 : (k : Int) < (ll.length : Int) := by omega
          clear hat
          generalize ll[k] = x at *
          by_cases h0 : x.cu.l.length = 0
          · have h0' : x.cu.l = [] := List.eq_nil_of_length_eq_zero h0
            have z1 : ((x.cu.l.length : Int) == 0) = true := by rw [h0]; rfl
            replace h0 := hide h0
            have h0h := hide h0'
            clear h0'
            have XB := hide ((Own.start wr).alloc #[.string x.nm, .string x.fr, .string x.tn, .int .i64 x.kd, .int .i64 x.le, .int .i64 x.up, .int .i64 x.dn, .string x.se, .int .i64 x.wi, .int .i64 x.he, .slice x.cu.A x.cu.l.length x.cu.c] 50)
            have hrb := XB.out.r1
            have HCb := hide (HC.out.to XB.out.1)
            go_upto_region 14 with (fail)
            generalize hW : wr.alloc (.cells #[.string x.nm, .string x.fr, .string x.tn, .int .i64 x.kd, .int .i64 x.le, .int .i64 x.up, .int .i64 x.dn, .string x.se, .int .i64 x.wi, .int .i64 x.he, .slice x.cu.A x.cu.l.length x.cu.c] 50) = W1 at *
            clear hW
            have RM := hide (World.ownsRow_made (base := W1.heap.size) (e := 121) (size := 2) W1 #[] 0 (Nat.le_refl _) (Nat.zero_le _) rfl)
            have BA := hide ((Below.refl W1.heap.size W1).alloc (Nat.le_refl _) (.cells #[] 121))
            have RD := hide ((KS.out _ (HCb.out.own.1)).below BA.out).reads
            have f0 : 0 + x.cu.l.length ≤ maxLen := by unfold maxLen; omega
            have f00 : (0 + x.cu.l.length) * 16 ≤ 140737488355328 := by omega
            have f000 : W1.heap.size ≤ (W1.alloc (.cells #[] 121)).heap.size := by simp
            have fo := flatKn_one x.cu.l
            have hrc := (XB.out.alloc #[] 121).r2
            have GT := hide (fun (v5 : Value) (w5 : World) (ho : w5.ownsRow W1.heap.size 121 2 v5 (0 + x.cu.l.length) ([] ++ flatKn x.cu.l)) (hg : (W1.alloc (.cells #[] 121)).grownBy w5 (Value.slice (some ⟨W1.heap.size, 0, none⟩) 0 0).ownBlock) => And.intro (BA.out.grown hg (by simp) (fun k hk => Nat.le_of_eq (Option.some.inj (show some W1.heap.size = some k from hk)))) (tab_out ho))
            clear hrb
            go_upto_region 17 with (at_builtin; refine wpList_append_any _ rfl _ _ 48 rfl W1.heap.size 121 iK (.agg #[.int .i64 0, .int .i64 0]) 2 16 Tryz.underlying48 hK0 hK1 hK2 hK3 rfl (by decide) _ 0 [] rfl RM.out _ x.cu.A x.cu.l.length x.cu.c (flatKn x.cu.l) rfl RD.out fo f0 f00 f000 ?_; intro v5 w5 hown5 hgrow5 hor5; obtain ⟨B5, A5, cp5, rfl, T5⟩ := GT.out _ _ hown5 hgrow5; have hr5 := (XB.out.to B5).r1)
            have X5 := hide (XB.out.to B5)
            have T5h := hide T5
            clear GT RM BA RD fo hrc hown5 hgrow5 hor5 T5 B5 XB HCb f0 f00 f000
            have h0' := h0h.out
            replace h0' := hide h0'
            have X6 := hide (X5.out.set0 (Nat.le_refl _) (by simp) 10 (.slice A5 x.cu.l.length cp5))
            have X66 : Hid (Own wr ((w5.setCell ⟨wr.heap.size, 10, none⟩ (.slice A5 x.cu.l.length cp5)).setCell ⟨wr.heap.size, 10, none⟩ (.slice none 0 0)) [(wr.heap.size, 50, #[.string x.nm, .string x.fr, .string x.tn, .int .i64 x.kd, .int .i64 x.le, .int .i64 x.up, .int .i64 x.dn, .string x.se, .int .i64 x.wi, .int .i64 x.he, .slice none 0 0])]) := hide (X6.out.set0 (Nat.le_refl _) (by simp) 10 (.slice none 0 0))
            obtain ⟨W7, hW7⟩ : ∃ W7, W7 = ((w5.setCell ⟨wr.heap.size, 10, none⟩ (.slice A5 x.cu.l.length cp5)).setCell ⟨wr.heap.size, 10, none⟩ (.slice none 0 0)) := ⟨_, rfl⟩
            rw [← hW7]
            have X7 : Hid (Own wr W7 [(wr.heap.size, 50, #[.string x.nm, .string x.fr, .string x.tn, .int .i64 x.kd, .int .i64 x.le, .int .i64 x.up, .int .i64 x.dn, .string x.se, .int .i64 x.wi, .int .i64 x.he, .slice none 0 0])]) := hide (by rw [hW7]; exact X66.out)
            have T7 : Hid (TabR W7 none 0 []) := hide (World.ownsRow_nil _ _ _ _)
            clear X5 X6 X66 T5h hr5 hW7
            have C7 := hide (HC.out.to X7.out.1)
            have hr7 := X7.out.r1
            have hr8 := C7.out.own.r1
            have C8 := hide (C7.out.to ((Below.refl _ _).alloc (Nat.le_refl _) (.cells #[.string x.nm, .string x.fr, .string x.tn, .int .i64 x.kd, .int .i64 x.le, .int .i64 x.up, .int .i64 x.dn, .string x.se, .int .i64 x.wi, .int .i64 x.he, .slice none 0 0] 50)))
            have NW := hide (World.news_of_block (cs := #[.string x.nm, .string x.fr, .string x.tn, .int .i64 x.kd, .int .i64 x.le, .int .i64 x.up, .int .i64 x.dn, .string x.se, .int .i64 x.wi, .int .i64 x.he, .slice none 0 0]) (t := 50) (fr := (0, 0)) (heap_alloc_new W7 _))
            have f4 : ∀ y ∈ [.string x.nm, .string x.fr, .string x.tn, .int .i64 x.kd, .int .i64 x.le, .int .i64 x.up, .int .i64 x.dn, .string x.se, .int .i64 x.wi, .int .i64 x.he, .slice none 0 0], (y : Value).oneCell' = true := by simp [Value.oneCell']
            have f1 : ls.length + 1 ≤ maxLen := by unfold maxLen; omega
            have f2 : (ls.length + 1) * 136 ≤ 140737488355328 := by omega
            have f3 : w.heap.size ≤ (W7.alloc (.cells #[.string x.nm, .string x.fr, .string x.tn, .int .i64 x.kd, .int .i64 x.le, .int .i64 x.up, .int .i64 x.dn, .string x.se, .int .i64 x.wi, .int .i64 x.he, .slice none 0 0] 50)).heap.size := C8.out.own.1.size
            have GR := hide (fun (v6 : Value) (w6 : World) (ho : w6.ownsRow w.heap.size 50 11 v6 (ls.length + 1) (flatLk ls ++ [.string x.nm, .string x.fr, .string x.tn, .int .i64 x.kd, .int .i64 x.le, .int .i64 x.up, .int .i64 x.dn, .string x.se, .int .i64 x.wi, .int .i64 x.he, .slice none 0 0])) hg => And.intro (C8.out.link (x := ⟨x.nm, x.fr, x.tn, x.kd, x.le, x.up, x.dn, x.se, x.wi, x.he, ⟨[], none, 0⟩⟩) NM.out (row_below T7.out ((Below.refl _ _).alloc (Nat.le_refl _) (.cells #[.string x.nm, .string x.fr, .string x.tn, .int .i64 x.kd, .int .i64 x.le, .int .i64 x.up, .int .i64 x.dn, .string x.se, .int .i64 x.wi, .int .i64 x.he, .slice none 0 0] 50))) ho hg) (And.intro (C8.out.own.grown C8.out.rl hg (C8.out.tys (by decide))) (row_v ho)))
            go_wp2_with (at_builtin; refine wpList_append_own _ rfl _ _ 23 rfl w.heap.size 50 iL (.agg #[.string ⟨#[]⟩, .string ⟨#[]⟩, .string ⟨#[]⟩, .int .i64 0, .int .i64 0, .int .i64 0, .int .i64 0, .string ⟨#[]⟩, .int .i64 0, .int .i64 0, .slice none 0 0]) 11 136 Tryz.underlying23 hL0 hL1 hL2 hL3 rfl (by decide) _ ls.length (flatLk ls) rfl C8.out.rl ⟨W7.heap.size, 0, none⟩ 1 1 [.string x.nm, .string x.fr, .string x.tn, .int .i64 x.kd, .int .i64 x.le, .int .i64 x.up, .int .i64 x.dn, .string x.se, .int .i64 x.wi, .int .i64 x.he, .slice none 0 0] rfl rfl NW.out f4 f1 f2 f3 ?_; intro v6 w6 hown6 hgrow6 hor6; have hr9 := (GR.out _ _ hown6 hgrow6).2.1.r1; obtain ⟨A6, cp6, rfl⟩ := (GR.out _ _ hown6 hgrow6).2.2)
            have G := GR.out _ _ hown6 hgrow6
            have C9 := hide G.1
            clear G GR hown6 hgrow6 hr7 hr8 NW C7 C8 T7 X7 f4
            go_roundw
            case rel => exact ⟨k + 1, _, _, by omega, by go_num, C9, hide (by rw [List.map_append, EM.out, TK.out]; unfold Lnk.er; simp only [List.map_cons, List.map_nil, h0'.out])⟩
            case measure => simp [intOf]; omega
          · have z1 : ((x.cu.l.length : Int) == 0) = false := by
              cases e : ((x.cu.l.length : Int) == 0) with
              | false => rfl
              | true => exact absurd (by have := beq_iff_eq.1 e; omega) h0
            have z2 : ¬ x.cu.l = [] := fun e => h0 (by rw [e]; rfl)
            have XB := hide ((Own.start wr).alloc #[.string x.nm, .string x.fr, .string x.tn, .int .i64 x.kd, .int .i64 x.le, .int .i64 x.up, .int .i64 x.dn, .string x.se, .int .i64 x.wi, .int .i64 x.he, .slice x.cu.A x.cu.l.length x.cu.c] 50)
            have hrb := XB.out.r1
            have HCb := hide (HC.out.to XB.out.1)
            go_upto_region 14 with (fail)
            generalize hW : wr.alloc (.cells #[.string x.nm, .string x.fr, .string x.tn, .int .i64 x.kd, .int .i64 x.le, .int .i64 x.up, .int .i64 x.dn, .string x.se, .int .i64 x.wi, .int .i64 x.he, .slice x.cu.A x.cu.l.length x.cu.c] 50) = W1 at *
            clear hW
            have RM := hide (World.ownsRow_made (base := W1.heap.size) (e := 121) (size := 2) W1 #[] 0 (Nat.le_refl _) (Nat.zero_le _) rfl)
            have BA := hide ((Below.refl W1.heap.size W1).alloc (Nat.le_refl _) (.cells #[] 121))
            have RD := hide ((KS.out _ (HCb.out.own.1)).below BA.out).reads
            have f0 : 0 + x.cu.l.length ≤ maxLen := by unfold maxLen; omega
            have f00 : (0 + x.cu.l.length) * 16 ≤ 140737488355328 := by omega
            have f000 : W1.heap.size ≤ (W1.alloc (.cells #[] 121)).heap.size := by simp
            have fo := flatKn_one x.cu.l
            have hrc := (XB.out.alloc #[] 121).r2
            have GT := hide (fun (v5 : Value) (w5 : World) (ho : w5.ownsRow W1.heap.size 121 2 v5 (0 + x.cu.l.length) ([] ++ flatKn x.cu.l)) (hg : (W1.alloc (.cells #[] 121)).grownBy w5 (Value.slice (some ⟨W1.heap.size, 0, none⟩) 0 0).ownBlock) => And.intro (BA.out.grown hg (by simp) (fun k hk => Nat.le_of_eq (Option.some.inj (show some W1.heap.size = some k from hk)))) (tab_out ho))
            clear hrb
            go_upto_region 17 with (at_builtin; refine wpList_append_any _ rfl _ _ 48 rfl W1.heap.size 121 iK (.agg #[.int .i64 0, .int .i64 0]) 2 16 Tryz.underlying48 hK0 hK1 hK2 hK3 rfl (by decide) _ 0 [] rfl RM.out _ x.cu.A x.cu.l.length x.cu.c (flatKn x.cu.l) rfl RD.out fo f0 f00 f000 ?_; intro v5 w5 hown5 hgrow5 hor5; obtain ⟨B5, A5, cp5, rfl, T5⟩ := GT.out _ _ hown5 hgrow5; have hr5 := (XB.out.to B5).r1)
            have X5 := hide (XB.out.to B5)
            have T5h := hide T5
            clear GT RM BA RD fo hrc hown5 hgrow5 hor5 T5 B5 XB HCb f0 f00 f000
            have X6 : Hid (Own wr (w5.setCell ⟨wr.heap.size, 10, none⟩ (.slice A5 x.cu.l.length cp5)) [(wr.heap.size, 50, #[.string x.nm, .string x.fr, .string x.tn, .int .i64 x.kd, .int .i64 x.le, .int .i64 x.up, .int .i64 x.dn, .string x.se, .int .i64 x.wi, .int .i64 x.he, .slice A5 x.cu.l.length cp5])]) := hide (X5.out.set0 (Nat.le_refl _) (by simp) 10 (.slice A5 x.cu.l.length cp5))
            have T6 : Hid (TabR (w5.setCell ⟨wr.heap.size, 10, none⟩ (.slice A5 x.cu.l.length cp5)) A5 cp5 x.cu.l) := hide (row_set T5h.out (X5.out.2 _ (List.mem_cons_self ..)) (show (121 : Nat) ≠ 50 by decide) 10 (.slice A5 x.cu.l.length cp5))
            obtain ⟨W7, hW7⟩ : ∃ W7, W7 = (w5.setCell ⟨wr.heap.size, 10, none⟩ (.slice A5 x.cu.l.length cp5)) := ⟨_, rfl⟩
            rw [← hW7]
            have X7 : Hid (Own wr W7 [(wr.heap.size, 50, #[.string x.nm, .string x.fr, .string x.tn, .int .i64 x.kd, .int .i64 x.le, .int .i64 x.up, .int .i64 x.dn, .string x.se, .int .i64 x.wi, .int .i64 x.he, .slice A5 x.cu.l.length cp5])]) := hide (by rw [hW7]; exact X6.out)
            have T7 : Hid (TabR W7 A5 cp5 x.cu.l) := hide (by rw [hW7]; exact T6.out)
            clear X5 X6 T5h T6 hr5 hW7
            have C7 := hide (HC.out.to X7.out.1)
            have hr7 := X7.out.r1
            have hr8 := C7.out.own.r1
            have C8 := hide (C7.out.to ((Below.refl _ _).alloc (Nat.le_refl _) (.cells #[.string x.nm, .string x.fr, .string x.tn, .int .i64 x.kd, .int .i64 x.le, .int .i64 x.up, .int .i64 x.dn, .string x.se, .int .i64 x.wi, .int .i64 x.he, .slice A5 x.cu.l.length cp5] 50)))
            have NW := hide (World.news_of_block (cs := #[.string x.nm, .string x.fr, .string x.tn, .int .i64 x.kd, .int .i64 x.le, .int .i64 x.up, .int .i64 x.dn, .string x.se, .int .i64 x.wi, .int .i64 x.he, .slice A5 x.cu.l.length cp5]) (t := 50) (fr := (0, 0)) (heap_alloc_new W7 _))
            have f4 : ∀ y ∈ [.string x.nm, .string x.fr, .string x.tn, .int .i64 x.kd, .int .i64 x.le, .int .i64 x.up, .int .i64 x.dn, .string x.se, .int .i64 x.wi, .int .i64 x.he, .slice A5 x.cu.l.length cp5], (y : Value).oneCell' = true := by simp [Value.oneCell']
            have f1 : ls.length + 1 ≤ maxLen := by unfold maxLen; omega
            have f2 : (ls.length + 1) * 136 ≤ 140737488355328 := by omega
            have f3 : w.heap.size ≤ (W7.alloc (.cells #[.string x.nm, .string x.fr, .string x.tn, .int .i64 x.kd, .int .i64 x.le, .int .i64 x.up, .int .i64 x.dn, .string x.se, .int .i64 x.wi, .int .i64 x.he, .slice A5 x.cu.l.length cp5] 50)).heap.size := C8.out.own.1.size
            have GR := hide (fun (v6 : Value) (w6 : World) (ho : w6.ownsRow w.heap.size 50 11 v6 (ls.length + 1) (flatLk ls ++ [.string x.nm, .string x.fr, .string x.tn, .int .i64 x.kd, .int .i64 x.le, .int .i64 x.up, .int .i64 x.dn, .string x.se, .int .i64 x.wi, .int .i64 x.he, .slice A5 x.cu.l.length cp5])) hg => And.intro (C8.out.link (x := ⟨x.nm, x.fr, x.tn, x.kd, x.le, x.up, x.dn, x.se, x.wi, x.he, ⟨x.cu.l, A5, cp5⟩⟩) NM.out (row_below T7.out ((Below.refl _ _).alloc (Nat.le_refl _) (.cells #[.string x.nm, .string x.fr, .string x.tn, .int .i64 x.kd, .int .i64 x.le, .int .i64 x.up, .int .i64 x.dn, .string x.se, .int .i64 x.wi, .int .i64 x.he, .slice A5 x.cu.l.length cp5] 50))) ho hg) (And.intro (C8.out.own.grown C8.out.rl hg (C8.out.tys (by decide))) (row_v ho)))
            go_wp2_with (at_builtin; refine wpList_append_own _ rfl _ _ 23 rfl w.heap.size 50 iL (.agg #[.string ⟨#[]⟩, .string ⟨#[]⟩, .string ⟨#[]⟩, .int .i64 0, .int .i64 0, .int .i64 0, .int .i64 0, .string ⟨#[]⟩, .int .i64 0, .int .i64 0, .slice none 0 0]) 11 136 Tryz.underlying23 hL0 hL1 hL2 hL3 rfl (by decide) _ ls.length (flatLk ls) rfl C8.out.rl ⟨W7.heap.size, 0, none⟩ 1 1 [.string x.nm, .string x.fr, .string x.tn, .int .i64 x.kd, .int .i64 x.le, .int .i64 x.up, .int .i64 x.dn, .string x.se, .int .i64 x.wi, .int .i64 x.he, .slice A5 x.cu.l.length cp5] rfl rfl NW.out f4 f1 f2 f3 ?_; intro v6 w6 hown6 hgrow6 hor6; have hr9 := (GR.out _ _ hown6 hgrow6).2.1.r1; obtain ⟨A6, cp6, rfl⟩ := (GR.out _ _ hown6 hgrow6).2.2)
            have G := GR.out _ _ hown6 hgrow6
            have C9 := hide G.1
            clear G GR hown6 hgrow6 hr7 hr8 NW C7 C8 T7 X7 f4
            go_roundw
            case rel => exact ⟨k + 1, _, _, by omega, by go_num, C9, hide (by rw [List.map_append, EM.out, TK.out]; rfl)⟩
            case measure => simp [intOf]; omega
        · have d1 : decide (k < ll.length) = false := decide_eq_false hlt
          obtain rfl : k = ll.length := by omega
          have EMe := hide (EM.out.trans (by rw [List.take_length]))
          clear EM
          have hrf := HC.out.own.r3
          obtain ⟨A1, c1, A2, c2, rfl, rfl, hn, hl, hcap⟩ := HC.out.net
          have C8 := HC.out.setR (by omega) (by simp) 0 (.slice A1 ns.length c1)
          have C9 := hide (C8.setR (by omega) (by simp) 1 (.slice A2 ls.length c2))
          have hrz := C9.out.own.tail.r1
          have XB := hide C9.out.own.1
          obtain ⟨A3, c3, A4, c4, e3, e4, hn', hl', _⟩ := C9.out.net
          injection e3 with a1 a2 a3
          injection e4 with b1 b2 b3
          subst a1 b1
          have HP := hide (And.intro hn' (And.intro hl' (And.intro hcap (And.intro EMn.out EMe.out))))
          clear C8 hn hl C9 hn' hl' hcap a2 a3 b2 b3 EMn EMe
          go_wp2
          exact bodyPost_ret (v := .agg #[.slice A1 ns.length c1, .slice A2 ls.length c2]) (by simp [results, Tryz.results37, hrz, go_sem]) rfl ⟨XB.out, ns, ls, A1, c1, A2, c2, rfl, HP.out.1, HP.out.2.1, HP.out.2.2.1, HP.out.2.2.2.1, HP.out.2.2.2.2⟩
end Go.Proofs.YtdcdfjinbieblaaGreatDoor
