/- The program's numbers of a line of a table: what it returns; nothing that was there is turned. -/
import Derived.Test.YtnhimgabcljahaaGreatDoorItTxP
import Derived.Test.YtnhimgabcljahaaGreatDoorWrd
namespace Go.Proofs.YtnhimgabcljahaaGreatDoor
open Go Go.RowKit

theorem nsB_cons {wd l a : List UInt8} {ws : List (List UInt8)} (h : pts 32 l = a :: ws) : nsB wd l = (decide (a = wd) && (decide (0 < ws.length) && ws.all rnB)) ∧ nsL l = ws.map fun w => ((valL 0 w : Nat) : Int) := by
  unfold nsB nsL
  rw [h]
  refine ⟨?_, rfl⟩
  cases ws with
  | nil => simp
  | cons b r => simp
def nsOk (wd x : List UInt8) : Bool := endB x && nsB wd (bodyL x)
def nsV (wd x : List UInt8) : List Int := if nsOk wd x = true then nsL (bodyL x) else []
def NsPost (wd x : List UInt8) (w : World) (e : Ending) (w' : World) : Prop :=
  Below w.heap.size w w' ∧ ∃ (A : Option Addr) (c : Nat), e = .returned (.tuple #[.slice A (nsV wd x).length c, .bool (nsOk wd x)]) ∧ w'.ownsRow w.heap.size 3 1 (.slice A (nsV wd x).length c) (nsV wd x).length ((nsV wd x).map (Value.int .i64))
theorem NsPost.no {wd x : List UInt8} {w w' : World} (hb : Below w.heap.size w w') (h : nsOk wd x = false) : NsPost wd x w (.returned (.tuple #[.slice none 0 0, .bool false])) w' := by
  have e : nsV wd x = [] := by unfold nsV; rw [h]; simp
  exact ⟨hb, none, 0, by rw [e, h]; rfl, by rw [e]; exact World.ownsRow_nil _ _ _ _⟩
theorem NsPost.yes {wd x : List UInt8} {l : List Int} {w w' : World} {A : Option Addr} {c : Nat} (hb : Below w.heap.size w w') (h : nsOk wd x = true) (h2 : nsL (bodyL x) = l) (hs : w'.ownsRow w.heap.size 3 1 (.slice A l.length c) l.length (l.map (Value.int .i64))) :
    NsPost wd x w (.returned (.tuple #[.slice A l.length c, .bool true])) w' := by
  have e : nsV wd x = l := by unfold nsV; rw [h, if_pos rfl, h2]
  exact ⟨hb, A, c, by rw [e, h], by rw [e]; exact hs⟩
theorem ns_info : (Tryz.prog.info? 3).map (fun i => (i.zero, i.size, i.bytes)) = some (some (.int .i64 0), 1, 8) := by kernel_rfl
theorem row_monoN {w : World} {base base' : Nat} {e : TypeId} {size : Nat} {v : Value} {n : Nat} {xs : List Value} (h : w.ownsRow base e size v n xs) (hb : base' ≤ base) : w.ownsRow base' e size v n xs :=
  ⟨h.1, h.2.imp id fun ⟨g, cap, cur, h1, h2, h3⟩ => ⟨g, cap, cur, h1, Nat.le_trans hb h2, h3⟩⟩
theorem row_capN {w : World} {B e s n c : Nat} {A : Option Addr} {xs : List Value} (h : w.ownsRow B e s (.slice A n c) n xs) : n ≤ c := by
  rcases h.2 with ⟨h1, h2⟩ | ⟨g, cp, cur, h1, _, _, h2, _⟩
  · injection h1 with _ h3 _; omega
  · injection h1 with _ _ h4; omega
theorem nu_cases (u : List UInt8) : (nuB u = true ∧ atB u = true ∧ u.length ≤ 9 ∧ Lib.itoa (atV u) = u ∧ 0 ≤ atV u) ∨ (nuB u = false ∧ atB u = false) ∨ (nuB u = false ∧ atB u = true ∧ atV u < 0) ∨ (nuB u = false ∧ atB u = true ∧ 0 ≤ atV u ∧ 9 < u.length) ∨
    (nuB u = false ∧ atB u = true ∧ 0 ≤ atV u ∧ u.length ≤ 9 ∧ Lib.itoa (atV u) ≠ u) := by
  have e : nuB u = (atB u && decide (u.length ≤ 9) && decide (Lib.itoa (atV u) = u) && decide (0 ≤ atV u)) := rfl
  rw [e]
  cases atB u
  · simp
  · by_cases h1 : u.length ≤ 9 <;> by_cases h2 : Lib.itoa (atV u) = u <;> by_cases h3 : 0 ≤ atV u <;> simp [h1, h2, h3] <;> omega
set_option maxRecDepth 100000 in
set_option maxHeartbeats 4000000 in
theorem numbers_any (x wd : List UInt8) (w : World) (hx : x.length ≤ 1000000) (hw : wd.length ≤ 100) (ht : TxtW w) : Calls Tryz.prog 21 #[strV x, strV wd] w (NsPost wd x w) := by
  have HT := hide ht
  have X := Own.start w
  have bl := body_len x
  have CU := hide (fun W => cutSuf_any x W (by omega))
  have SP := hide (fun W hW => split_any (bodyL x) 32 W (by omega) hW)
  have NO := hide (fun w' hb h => NsPost.no (wd := wd) (x := x) (w := w) (w' := w') hb h)
  have EX : Hid (nsOk wd x = (endB x && nsB wd (bodyL x))) := hide rfl
  have PL := hide (fun p (hp : p ∈ pts 32 (bodyL x)) => pts_len p hp)
  have PC := pts_length 32 (bodyL x)
  cases hp : pts 32 (bodyL x) with
  | nil => exact absurd hp (pts_ne 32 _)
  | cons a ws =>
    obtain ⟨nb, nl⟩ := nsB_cons (wd := wd) hp
    rw [hp] at SP PL PC
    have NB := hide nb
    have NL := hide nl
    have la := PL.out a (List.mem_cons_self ..)
    have WL : Hid (∀ i, i < ws.length → (ws.getD i []).length ≤ 1000000) := hide (fun i hi => by have := PL.out (ws.getD i []) (by simp [hi]); omega)
    rw [List.length_cons] at PC
    clear ht hp nb nl PL
    have hwl : ws.length ≤ 1000000 := by omega
    clear PC bl
    rcases Bool.eq_false_or_eq_true (endB x) with he | he
    case inr =>
      rw [he] at CU
      have E := hide (fun w' hb => NO.out w' hb (by rw [EX.out, he]; rfl))
      generalize bodyL x = bd at *
      clear he
      go_enter Tryz.func21, Tryz.ntmps21
      go_wp2_with fail
      refine (CU.out _).mono ?_
      rintro e w1 ⟨rfl, rfl⟩
      go_wp2_with fail
      refine (SP.out _ HT.out).mono ?_
      rintro e w2 ⟨hb, A, c, rfl, hsl, hc⟩
      replace X := X.to hb
      clear hb
      go_wp2
      exact bodyPost_ret (v := .tuple #[.slice none 0 0, .bool false]) (by simp [results, Tryz.results21, go_sem]) rfl (E.out _ X.1)
    rw [he] at CU
    have EE : Hid (nsOk wd x = (decide (a = wd) && (decide (0 < ws.length) && ws.all rnB))) := hide (by rw [EX.out, he, NB.out]; rfl)
    have YES := hide (fun w' A c l hb h h2 hs => NsPost.yes (wd := wd) (x := x) (w := w) (w' := w') (A := A) (c := c) (l := l) hb h h2 hs)
    rw [NL.out] at YES
    clear he EX NB NL
    by_cases ha : a = wd
    case neg =>
      have E := hide (fun w' hb => NO.out w' hb (by rw [EE.out, decide_eq_false ha]; rfl))
      have q1 : (a == wd) = false := by simpa using ha
      have q2 : (a != wd) = true := by simpa using ha
      clear ha
      go_enter Tryz.func21, Tryz.ntmps21
      go_wp2_with fail
      refine (CU.out _).mono ?_
      rintro e w1 ⟨rfl, rfl⟩
      go_wp2_with fail
      refine (SP.out _ HT.out).mono ?_
      rintro e w2 ⟨hb, A, c, rfl, hsl, hc⟩
      obtain ⟨b, off, rfl, hbl, hat⟩ := hsl.2 (by simp)
      have c0 := hat 0 (by simp)
      simp only [List.getElem_cons_zero, Nat.add_zero] at c0
      replace X := X.to hb
      clear hb hat hsl
      go_wp2
      exact bodyPost_ret (v := .tuple #[.slice none 0 0, .bool false]) (by simp [results, Tryz.results21, go_sem]) rfl (E.out _ X.1)
    subst ha
    have q1 : (a == a) = true := by simp
    by_cases h0 : 0 < ws.length
    case neg =>
      have E := hide (fun w' hb => NO.out w' hb (by rw [EE.out, decide_eq_false h0]; simp))
      obtain rfl : ws = [] := List.eq_nil_of_length_eq_zero (by omega)
      go_enter Tryz.func21, Tryz.ntmps21
      go_wp2_with fail
      refine (CU.out _).mono ?_
      rintro e w1 ⟨rfl, rfl⟩
      go_wp2_with fail
      refine (SP.out _ HT.out).mono ?_
      rintro e w2 ⟨hb, A, c, rfl, hsl, hc⟩
      obtain ⟨b, off, rfl, hbl, hat⟩ := hsl.2 (by simp)
      have c0 := hat 0 (by simp)
      simp only [List.getElem_cons_zero, Nat.add_zero] at c0
      replace X := X.to hb
      clear hb hat hsl
      go_wp2
      exact bodyPost_ret (v := .tuple #[.slice none 0 0, .bool false]) (by simp [results, Tryz.results21, go_sem]) rfl (E.out _ X.1)
    have EW := hide (fun w' i (hi : i < ws.length) (h : nuB (ws.getD i []) = false) hb => NO.out w' hb (by
      rw [EE.out]
      have : ws.all rnB = false := by
        rw [List.all_eq_false]
        exact ⟨ws.getD i [], by simp [hi], by rw [← (num_same _).1, h]; simp⟩
      rw [this]; simp))
    have EY := hide (fun (h : ∀ i, i < ws.length → nuB (ws.getD i []) = true) => (show nsOk a x = true by
      rw [EE.out]
      have : ws.all rnB = true := by
        rw [List.all_eq_true]
        intro y hy
        obtain ⟨i, hi, rfl⟩ := List.mem_iff_getElem.1 hy
        rw [← (num_same _).1]
        have := h i hi
        rw [show ws.getD i [] = ws[i] by simp [hi]] at this
        exact this
      rw [this]; simp [h0]))
    obtain ⟨i0, hi0, hz0, hz1, hz2⟩ := info_parts ns_info
    generalize bodyL x = bd at *
    clear EE NO
    go_enter Tryz.func21, Tryz.ntmps21
    go_wp2_with fail
    refine (CU.out _).mono ?_
    rintro e w1 ⟨rfl, rfl⟩
    go_wp2_with fail
    refine (SP.out _ HT.out).mono ?_
    rintro e w2 ⟨hb, A, c, rfl, hsl, hc⟩
    obtain ⟨b, off, rfl, hbl, hat⟩ := hsl.2 (by simp)
    have c0 := hat 0 (by simp)
    simp only [List.getElem_cons_zero, Nat.add_zero] at c0
    rw [List.length_cons] at hc
    have hc1 : ¬ c = 1 := by omega
    have hc2 : 1 ≤ c := by omega
    have AT : Hid (∀ i, i < ws.length → w2.cell? ⟨b, off + 1 + i, none⟩ = some (strV (ws.getD i []))) := hide (fun i hi => by
      have := hat (i + 1) (by simp; omega)
      rw [Nat.add_assoc, Nat.add_comm 1 i, this]
      simp [hi])
    replace X := X.to hb
    have XB := hide X.1
    clear hat hsl hb X
    have d0 : decide ((ws.length : Int) + 1 < 2) = false := decide_eq_false (by omega)
    go_wp2
    clear c0 q1 d0
    go_loopw [8, 37] (fun v8 v37 wr => ∃ k : Nat, k ≤ ws.length ∧ v37 = .int .i64 k ∧ Hid (Below w2.heap.size w2 wr) ∧ Hid (wr.ownsRow w2.heap.size 3 1 v8 k (((ws.take k).map fun w => ((valL 0 w : Nat) : Int)).map (Value.int .i64))) ∧ Hid (∀ i, i < k → nuB (ws.getD i []) = true)) (fun _ v37 _ => ws.length - (intOf v37).toNat)
    case atStart => exact ⟨0, Nat.zero_le _, rfl, hide (Below.refl _ _), hide (World.ownsRow_nil _ _ _ _), hide (fun i hi => by omega)⟩
    case round =>
      obtain ⟨k, hk, rfl, HB, HR, HA⟩ := hrel
      have XW := hide (below_via XB.out XB.out.size HB.out)
      by_cases hlt : k < ws.length
      · have c0 := (HB.out.cell (p := ⟨b, off + 1 + k, none⟩) hbl).trans (AT.out k hlt)
        have lu := WL.out k hlt
        have EK := hide (fun w' h hb => EW.out w' k hlt h hb)
        have HA2 := hide (fun (h : nuB (ws.getD k []) = true) i (hi : i < k + 1) => (show nuB (ws.getD i []) = true by
          by_cases e : i = k
          · subst e; exact h
          · exact HA.out i (by omega)))
        have TK : Hid ((ws.take (k + 1)).map (fun w => ((valL 0 w : Nat) : Int)) = (ws.take k).map (fun w => ((valL 0 w : Nat) : Int)) ++ [((valL 0 (ws.getD k []) : Nat) : Int)]) := hide (by rw [List.take_succ_eq_append_getElem hlt, List.map_append, show ws.getD k [] = ws[k] by simp [hlt]]; rfl)
        have NC := nu_cases (ws.getD k [])
        have NS := hide (fun h => (num_same (ws.getD k [])).2 h)
        have NS1 := hide (num_same (ws.getD k [])).1
        have A1 := hide (fun W h => atoiL (ws.getD k []) W (by omega) h)
        have bv := atV_bd (ws.getD k [])
        have I1 := hide (fun W h => itoaL (atV (ws.getD k [])) W bv.1 bv.2 h)
        generalize ws.getD k [] = u at *
        have HTW := hide (HT.out.below XW.out)
        rcases NC with ⟨n1, n2, n3, n4, n5⟩ | ⟨n1, n2⟩ | ⟨n1, n2, n3⟩ | ⟨n1, n2, n3, n4⟩ | ⟨n1, n2, n3, n4, n5⟩
        · have HA3 := hide (HA2.out n1)
          have NV := hide (NS.out (by rw [← NS1.out]; exact n1))
          rw [n2] at A1
          rw [n4] at I1
          have q1 : (u == u) = true := by simp
          have q2 : decide (atV u < 0) = false := decide_eq_false (by omega)
          have q3 : decide ((9 : Int) < (u.length : Int)) = false := decide_eq_false (by omega)
          rw [← NV.out] at TK
          clear n1 n2 n4 NS NS1 EK HA2 EW NV
          generalize atV u = v at *
          generalize hR : (ws.take k).map (fun w => ((valL 0 w : Nat) : Int)) = R at *
          clear hR
          go_wp2_with fail
          refine (A1.out _ HTW.out).mono ?_
          rintro e w3 ⟨⟨ev1, rfl, h1, h2⟩, hb⟩
          obtain rfl := h1 rfl
          have HR3 := hide (row_below HR.out hb)
          have HB3 := hide (below_via HB.out HB.out.size hb)
          have HTW3 := hide (HTW.out.below hb)
          clear h1 h2 hb HR HB HTW XW c0
          go_wp2_with fail
          refine (I1.out _ HTW3.out).mono ?_
          rintro e w4 ⟨rfl, hb⟩
          have HR4 := hide (row_below HR3.out hb)
          have HB4 := hide (below_via HB3.out HB3.out.size hb)
          clear hb HR3 HB3 HTW3
          go_wp2_with (at_builtin; refine wpList_append_own _ rfl _ _ 22 rfl w2.heap.size 3 i0 (.int .i64 0) 1 8 Tryz.underlying22 hi0 hz0 hz1 hz2 rfl (by decide) _ k (R.map (Value.int .i64)) rfl (HR4.out.alloc (.cells #[.int .i64 v] 3)) ⟨w4.heap.size, 0, none⟩ 1 1 [.int .i64 v] rfl rfl (World.news_of_block (cs := #[.int .i64 v]) (t := 3) (fr := (0, 0)) (heap_alloc_new w4 _)) (by simp [Value.oneCell']) (by unfold maxLen; omega) (by omega) (by have := HB4.out.size; simp; omega) ?_; intro v' w5 hown4 hgrow _)
          have B5 : Below w2.heap.size w2 w5 := (HB4.out.alloc HB4.out.size (.cells #[.int .i64 v] 3)).grown hgrow (by have := HB4.out.size; simp; omega) (fun k hk => ((HR4.out.alloc (.cells #[.int .i64 v] 3)).lt k hk).1)
          have B5H := hide B5
          have R5H := hide hown4
          clear B5 hown4 hgrow HR4 HB4
          go_roundw
          case rel => exact ⟨k + 1, by omega, by go_num, B5H, hide (by rw [TK.out, List.map_append]; exact R5H.out), HA3⟩
          case measure => simp [intOf]; omega
        · have E := hide (fun w' hb => EK.out w' n1 hb)
          rw [n2] at A1
          clear n1 n2 NS NS1 EK HA2 EW TK HA HR HB
          generalize atV u = v at *
          go_wp2_with fail
          refine (A1.out _ HTW.out).mono ?_
          rintro e w3 ⟨⟨ev1, rfl, h1, h2⟩, hb⟩
          obtain ⟨te, pe1, rfl⟩ := h2 rfl
          have XB3 := hide (below_via XW.out XW.out.size hb)
          clear h1 h2 hb c0
          go_wp2
          exact bodyPost_ret (v := .tuple #[.slice none 0 0, .bool false]) (by simp [results, Tryz.results21, go_sem]) rfl (E.out _ XB3.out)
        · have E := hide (fun w' hb => EK.out w' n1 hb)
          rw [n2] at A1
          have q2 : decide (atV u < 0) = true := decide_eq_true n3
          clear n1 n2 n3 NS NS1 EK HA2 EW TK HA HR HB
          generalize atV u = v at *
          go_wp2_with fail
          refine (A1.out _ HTW.out).mono ?_
          rintro e w3 ⟨⟨ev1, rfl, h1, h2⟩, hb⟩
          obtain rfl := h1 rfl
          have XB3 := hide (below_via XW.out XW.out.size hb)
          clear h1 h2 hb c0
          go_wp2
          exact bodyPost_ret (v := .tuple #[.slice none 0 0, .bool false]) (by simp [results, Tryz.results21, go_sem]) rfl (E.out _ XB3.out)
        · have E := hide (fun w' hb => EK.out w' n1 hb)
          rw [n2] at A1
          have q2 : decide (atV u < 0) = false := decide_eq_false (by omega)
          have q3 : decide ((9 : Int) < (u.length : Int)) = true := decide_eq_true (by omega)
          clear n1 n2 n3 NS NS1 EK HA2 EW TK HA HR HB
          generalize atV u = v at *
          go_wp2_with fail
          refine (A1.out _ HTW.out).mono ?_
          rintro e w3 ⟨⟨ev1, rfl, h1, h2⟩, hb⟩
          obtain rfl := h1 rfl
          have XB3 := hide (below_via XW.out XW.out.size hb)
          clear h1 h2 hb c0
          go_wp2
          exact bodyPost_ret (v := .tuple #[.slice none 0 0, .bool false]) (by simp [results, Tryz.results21, go_sem]) rfl (E.out _ XB3.out)
        · have E := hide (fun w' hb => EK.out w' n1 hb)
          rw [n2] at A1
          have q2 : decide (atV u < 0) = false := decide_eq_false (by omega)
          have q3 : decide ((9 : Int) < (u.length : Int)) = false := decide_eq_false (by omega)
          have q4 : (Lib.itoa (atV u) == u) = false := by simpa using n5
          have q5 : (Lib.itoa (atV u) != u) = true := by simpa using n5
          clear n1 n2 n3 n5 NS NS1 EK HA2 EW TK HA HR HB
          generalize Lib.itoa (atV u) = it at *
          generalize atV u = v at *
          go_wp2_with fail
          refine (A1.out _ HTW.out).mono ?_
          rintro e w3 ⟨⟨ev1, rfl, h1, h2⟩, hb⟩
          obtain rfl := h1 rfl
          have XB3 := hide (below_via XW.out XW.out.size hb)
          have HTW3 := hide (HTW.out.below hb)
          clear h1 h2 hb c0
          go_wp2_with fail
          refine (I1.out _ HTW3.out).mono ?_
          rintro e w4 ⟨rfl, hb⟩
          have XB4 := hide (below_via XB3.out XB3.out.size hb)
          clear hb
          go_wp2
          exact bodyPost_ret (v := .tuple #[.slice none 0 0, .bool false]) (by simp [results, Tryz.results21, go_sem]) rfl (E.out _ XB4.out)
      · obtain rfl : k = ws.length := by omega
        have OK := hide (EY.out HA.out)
        rw [List.take_length] at HR
        have hr2 : (ws.map fun w => ((valL 0 w : Nat) : Int)).length = ws.length := by simp
        obtain ⟨A', cp, rfl, hsl⟩ := IntSl.of_row HR.out (by rw [hr2]; omega) (fun i h => by
          rw [hr2] at h
          have h1 := HA.out i h
          rw [(num_same _).1] at h1
          have := rn_val h1
          rw [show ws.getD i [] = ws[i] by simp [h]] at this
          simp; omega)
        rw [hr2] at HR
        have F := hide (YES.out wr A' cp (ws.map fun w => ((valL 0 w : Nat) : Int)) XW.out OK.out rfl (by rw [hr2]; exact row_monoN HR.out XB.out.size))
        rw [hr2] at F ⊢
        clear hr2 hsl
        go_wp2
        exact bodyPost_ret (v := .tuple #[.slice A' ws.length cp, .bool true]) (by simp [results, Tryz.results21, go_sem]) rfl F.out
end Go.Proofs.YtnhimgabcljahaaGreatDoor
