/- The reference's Parse of fractions (sewershedref02): what it returns; nothing that was there is turned (printed by gen_rttxq.py). -/
import Derived.Test.YtbmckddjdkjplaaDoorRtTxR
namespace Go.Proofs.YtbmckddjdkjplaaDoor
open Go Go.RowKit

def rqR (l : List UInt8) : Fr := if rdB l then rdF l else Fr.zero
theorem rq_no {l : List UInt8} (h : rdB l = false) : rqR l = ⟨0, 0⟩ ∧ rdB l = false := by unfold rqR; rw [h]; exact ⟨rfl, rfl⟩
theorem rq_ok {l : List UInt8} (h : rdB l = true) : rqR l = rdF l ∧ rdB l = true := by unfold rqR; rw [h]; exact ⟨rfl, rfl⟩
def RetFB (s : Fr) (b : Bool) (w : World) (e : Ending) (w' : World) : Prop := e = .returned (.tuple #[s.val, .bool b]) ∧ Below w.heap.size w w'
theorem RetFB.mk {s s' : Fr} {b b' : Bool} {w w' : World} (hb : Below w.heap.size w w') (h1 : s = s') (h2 : b = b') : RetFB s b w (.returned (.tuple #[s'.val, .bool b'])) w' := by subst h1 h2; exact ⟨rfl, hb⟩
theorem rdK_bd (s : ByteArray) : rdI s.data.toList ≤ s.size ∧ rdI s.data.toList ≤ 1 ∧ rdK s.data.toList ≤ s.size ∧ valL 0 (rdN s.data.toList) < 100000000000 := by
  have e : s.data.toList.length = s.size := by simp
  have h1 : rdI s.data.toList ≤ s.size ∧ rdI s.data.toList ≤ 1 := by
    unfold rdI
    split
    · rename_i h
      have : s.data.toList ≠ [] := by intro h'; rw [h'] at h; simp at h
      have := List.length_pos_iff.2 this
      omega
    · omega
  have h2 := dgT_bd (s.data.toList.drop (rdI s.data.toList))
  refine ⟨h1.1, h1.2, ?_, h2.1⟩
  have h3 := h2.2.2
  rw [List.length_drop, e] at h3
  have : (rdN s.data.toList).length ≤ s.size - rdI s.data.toList := h3
  unfold rdK
  omega
theorem rdS_at (s : ByteArray) (h : rdK s.data.toList < s.size) : rdS s.data.toList = decide ((s[rdK s.data.toList].toNat : Int) = 47) := by
  have e := drop_byteD s (rdK s.data.toList) h
  have : s.data.toList[rdK s.data.toList]? = some s[rdK s.data.toList] := by
    rw [← List.head?_drop, e]; rfl
  unfold rdS
  rw [this]
  have q : (s[rdK s.data.toList] = 47) ↔ ((s[rdK s.data.toList].toNat : Int) = 47) := ⟨fun h => by rw [h]; rfl, fun h => UInt8.toNat_inj.1 (by have : (47 : UInt8).toNat = 47 := rfl; omega)⟩
  rw [Bool.eq_iff_iff, decide_eq_true_eq, decide_eq_true_eq, Option.some.injEq]
  exact q
theorem rdS_end (s : ByteArray) (h : ¬ rdK s.data.toList < s.size) : rdS s.data.toList = false := by
  unfold rdS
  rw [List.getElem?_eq_none (by simp; omega)]
  simp
theorem rd_def (s : ByteArray) : rdB s.data.toList = (decide (rdE s.data.toList = s.size) && vF (rdF s.data.toList) && decide (txF (rdF s.data.toList) = s.data.toList)) := by
  have e : s.size = s.data.toList.length := by simp
  rw [e]
  rfl
set_option maxRecDepth 100000 in
set_option maxHeartbeats 4000000 in
theorem rparse_any (s : ByteArray) (w : World) (hs : s.size ≤ 4294967280) : Calls Tryd.prog 40 #[.string s] w (RetFB (rqR s.data.toList) (rdB s.data.toList) w) := by
  have X := (Own.start w).alloc #[.int .i64 0, .int .i64 0] 24
  have hr := X.r1
  obtain ⟨i1, i2, i3, i4⟩ := rdK_bd s
  have NO := hide (fun h => rq_no (l := s.data.toList) h)
  have OK := hide (fun h => rq_ok (l := s.data.toList) h)
  have RB : Hid (rdB s.data.toList = (decide (rdE s.data.toList = s.size) && vF (rdF s.data.toList) && decide (txF (rdF s.data.toList) = s.data.toList))) := hide (rd_def s)
  have D1 := hide (fun W => show Calls Tryd.prog 59 #[.string s, .int .i64 ((rdI s.data.toList : Nat) : Int)] W fun e w' => e = .returned (.tuple #[.int .i64 ((valL 0 (rdN s.data.toList) : Nat) : Int), .int .i64 ((rdK s.data.toList : Nat) : Int)]) ∧ Below W.heap.size W w' from digits_any s (rdI s.data.toList) W hs i1)
  have D2 := hide (fun (h : rdK s.data.toList < s.size) W => show Calls Tryd.prog 59 #[.string s, .int .i64 ((rdK s.data.toList : Int) + 1)] W fun e w' => e = .returned (.tuple #[.int .i64 ((valL 0 (rdD s.data.toList) : Nat) : Int), .int .i64 ((rdK s.data.toList + 1 + (rdD s.data.toList).length : Nat) : Int)]) ∧ Below W.heap.size W w' from digits_any s (rdK s.data.toList + 1) W hs h)
  have S1 := hide (fun h => rdS_at s h)
  have S2 := hide (rdS_end s)
  have EE : Hid (rdE s.data.toList = if rdS s.data.toList then rdK s.data.toList + 1 + (rdD s.data.toList).length else rdK s.data.toList) := hide rfl
  have EF : Hid (rdF s.data.toList = ⟨if rdI s.data.toList = 1 then -(valL 0 (rdN s.data.toList) : Int) else (valL 0 (rdN s.data.toList) : Int), if rdS s.data.toList then (valL 0 (rdD s.data.toList) : Int) else 1⟩) := hide rfl
  have EI : Hid (rdI s.data.toList = if s.data.toList.head? = some 45 then 1 else 0) := hide rfl
  have DD := hide (dgT_bd (s.data.toList.drop (rdK s.data.toList + 1)))
  have DB : Hid (valL 0 (rdD s.data.toList) < 100000000000 ∧ (rdK s.data.toList < s.size → rdK s.data.toList + 1 + (rdD s.data.toList).length ≤ s.size)) := hide ⟨DD.out.1, fun h => by
    have h3 : (rdD s.data.toList).length ≤ _ := DD.out.2.2
    rw [List.length_drop] at h3
    have : s.data.toList.length = s.size := by simp
    omega⟩
  have HB := head_byte s
  clear DD
  generalize rdB s.data.toList = rb at *
  generalize rqR s.data.toList = rr at *
  generalize rdF s.data.toList = rf at *
  generalize rdE s.data.toList = re at *
  generalize valL 0 (rdN s.data.toList) = N1 at *
  generalize valL 0 (rdD s.data.toList) = N2 at *
  generalize (rdD s.data.toList).length = L2 at *
  generalize rdS s.data.toList = sl at *
  generalize rdI s.data.toList = I at *
  generalize rdK s.data.toList = K at *
  have TL := ByteArray.toList_eq s
  have b1 : (N1 : Int) ≤ 100000000000 := by omega
  by_cases z : 0 < s.size
  · have z1 : decide ((0 : Int) < (s.size : Int)) = true := decide_eq_true (by omega)
    by_cases m : (s[0].toNat : Int) = 45
    · have q0 : ((s[0].toNat : Int) == 45) = true := by simp [m]
      have e1 : I = 1 := by rw [EI.out, if_pos]; rw [HB z]; congr 1; exact UInt8.toNat_inj.1 (by have : (45 : UInt8).toNat = 45 := rfl; omega)
      subst e1
      clear EI HB m
      go_enter Tryd.func40, Tryd.ntmps40
      go_wp2_with fail
      refine (D1.out _).mono ?_
      rintro e w1 ⟨rfl, hb⟩
      replace X := X.to hb
      clear hb hr
      have hr := X.r1
      by_cases ks : K < s.size
      · have k1 : decide ((K : Int) < (s.size : Int)) = true := decide_eq_true (by omega)
        have SS := S1.out ks
        have P2 := hide (D2.out ks)
        by_cases c47 : (s[K].toNat : Int) = 47
        · have q3 : ((s[K].toNat : Int) == 47) = true := by simp [c47]
          have es : sl = true := by rw [SS]; exact decide_eq_true c47
          have EF2 : Hid (rf = ⟨-(N1 : Int), (N2 : Int)⟩) := hide (by rw [EF.out, es]; simp)
          have EF3 := EF2
          have EE2 : Hid (re = K + 1 + L2) := hide (by rw [EE.out, es]; simp)
          have b2 : (N2 : Int) ≤ 100000000000 := by have := DB.out.1; omega
          have b3 : K + 1 + L2 ≤ s.size := DB.out.2 ks
          have b4 : (((K + 1 + L2 : Nat) : Int)) ≤ 4294967280 := by omega
          clear SS S1 S2 D1 D2 c47 es DB
          go_wp2_with fail
          refine (P2.out _).mono ?_
          rintro e w2 ⟨rfl, hb⟩
          replace X := (X.to hb).alloc #[.int .i64 (-(N1 : Int)), .int .i64 (N2 : Int)] 24
          clear hb hr
          have hr := X.r2
          generalize hE : K + 1 + L2 = E at *
          have RB2 : Hid (rb = (decide (E = s.size) && vF ⟨-(N1 : Int), (N2 : Int)⟩ && decide (txF ⟨-(N1 : Int), (N2 : Int)⟩ = s.data.toList))) := hide (by rw [RB.out, EF2.out, EE2.out])
          have V := hide (fun W => refv_any ⟨-(N1 : Int), (N2 : Int)⟩ W)
          have TX := hide (fun W => rtext_any ⟨-(N1 : Int), (N2 : Int)⟩ W ⟨⟨by show _ ≤ -(N1 : Int); omega, by show -(N1 : Int) ≤ _; omega⟩, ⟨by show _ ≤ (N2 : Int); omega, by show (N2 : Int) ≤ _; omega⟩⟩)
          generalize hvv : vF ⟨-(N1 : Int), (N2 : Int)⟩ = vv at *
          generalize htx : txF ⟨-(N1 : Int), (N2 : Int)⟩ = tx at *
          clear hvv htx RB EF EE EF2 EE2
          by_cases ze : E = s.size
          rotate_left
          · have q5 : ((((E : Nat) : Int)) == (s.size : Int)) = false := by simp; omega
            have q6 : (E == s.size) = false := by simp [ze]
            have q7 : (E != s.size) = true := by simp [ze]
            have Z := hide (NO.out (by rw [RB2.out]; simp [ze]))
            clear V TX
            go_wp2
            exact bodyPost_ret (v := .tuple #[.agg #[.int .i64 0, .int .i64 0], .bool false]) (by simp [results, Tryd.results40, hr, go_sem]) rfl (RetFB.mk (s' := ⟨0, 0⟩) (by have HX := X.1; have hz := HX.size; go_grown) Z.out.1 Z.out.2)
          clear hE
          subst ze
          go_wp2_with fail
          refine (V.out _).mono ?_
          rintro e w4 ⟨rfl, hb⟩
          replace X := X.to hb
          clear hb hr
          have hr := X.r2
          cases vv
          · have Z := hide (NO.out (by rw [RB2.out]; simp))
            clear V TX
            go_wp2
            exact bodyPost_ret (v := .tuple #[.agg #[.int .i64 0, .int .i64 0], .bool false]) (by simp [results, Tryd.results40, hr, go_sem]) rfl (RetFB.mk (s' := ⟨0, 0⟩) (by have HX := X.1; have hz := HX.size; go_grown) Z.out.1 Z.out.2)
          go_wp2_with fail
          refine (TX.out _).mono ?_
          rintro e w5 ⟨rfl, hb⟩
          replace X := X.to hb
          clear hb hr
          have hr := X.r2
          by_cases q : tx = s.data.toList
          · have Z := hide (OK.out (by rw [RB2.out]; simp [q]))
            have q1 : (tx == s.data.toList) = true := by simp [q]
            clear V TX q
            go_wp2
            exact bodyPost_ret (v := .tuple #[.agg #[.int .i64 (-(N1 : Int)), .int .i64 ((N2 : Int))], .bool true]) (by simp [results, Tryd.results40, hr, go_sem]) rfl (RetFB.mk (s' := ⟨-(N1 : Int), (N2 : Int)⟩) (by have HX := X.1; have hz := HX.size; go_grown) (Z.out.1.trans EF3.out) Z.out.2)
          · have Z := hide (NO.out (by rw [RB2.out]; simp [q]))
            have q1 : (tx == s.data.toList) = false := by simp [q]
            clear V TX q
            go_wp2
            exact bodyPost_ret (v := .tuple #[.agg #[.int .i64 0, .int .i64 0], .bool false]) (by simp [results, Tryd.results40, hr, go_sem]) rfl (RetFB.mk (s' := ⟨0, 0⟩) (by have HX := X.1; have hz := HX.size; go_grown) Z.out.1 Z.out.2)
        · have q3 : ((s[K].toNat : Int) == 47) = false := by simpa using c47
          have es : sl = false := by rw [SS]; exact decide_eq_false c47
          have EF2 : Hid (rf = ⟨-(N1 : Int), 1⟩) := hide (by rw [EF.out, es]; simp)
          have EF3 := EF2
          have EE2 : Hid (re = K) := hide (by rw [EE.out, es]; simp)
          clear SS S1 S2 D1 D2 P2 c47 es DB
          have RB2 : Hid (rb = (decide (K = s.size) && vF ⟨-(N1 : Int), 1⟩ && decide (txF ⟨-(N1 : Int), 1⟩ = s.data.toList))) := hide (by rw [RB.out, EF2.out, EE2.out])
          have V := hide (fun W => refv_any ⟨-(N1 : Int), 1⟩ W)
          have TX := hide (fun W => rtext_any ⟨-(N1 : Int), 1⟩ W ⟨⟨by show _ ≤ -(N1 : Int); omega, by show -(N1 : Int) ≤ _; omega⟩, ⟨by show _ ≤ 1; omega, by show 1 ≤ _; omega⟩⟩)
          generalize hvv : vF ⟨-(N1 : Int), 1⟩ = vv at *
          generalize htx : txF ⟨-(N1 : Int), 1⟩ = tx at *
          clear hvv htx RB EF EE EF2 EE2
          have ze : ¬ K = s.size := by omega
          have q5 : ((((K : Nat) : Int)) == (s.size : Int)) = false := by simp; omega
          have q6 : (K == s.size) = false := by simp [ze]
          have q7 : (K != s.size) = true := by simp [ze]
          have Z := hide (NO.out (by rw [RB2.out]; simp [ze]))
          clear V TX
          go_wp2
          exact bodyPost_ret (v := .tuple #[.agg #[.int .i64 0, .int .i64 0], .bool false]) (by simp [results, Tryd.results40, hr, go_sem]) rfl (RetFB.mk (s' := ⟨0, 0⟩) (by have HX := X.1; have hz := HX.size; go_grown) Z.out.1 Z.out.2)
      · have k1 : decide ((K : Int) < (s.size : Int)) = false := decide_eq_false (by omega)
        have es : sl = false := S2.out ks
        have EF2 : Hid (rf = ⟨-(N1 : Int), 1⟩) := hide (by rw [EF.out, es]; simp)
        have EF3 := EF2
        have EE2 : Hid (re = K) := hide (by rw [EE.out, es]; simp)
        clear S1 S2 D1 D2 es DB
        have RB2 : Hid (rb = (decide (K = s.size) && vF ⟨-(N1 : Int), 1⟩ && decide (txF ⟨-(N1 : Int), 1⟩ = s.data.toList))) := hide (by rw [RB.out, EF2.out, EE2.out])
        have V := hide (fun W => refv_any ⟨-(N1 : Int), 1⟩ W)
        have TX := hide (fun W => rtext_any ⟨-(N1 : Int), 1⟩ W ⟨⟨by show _ ≤ -(N1 : Int); omega, by show -(N1 : Int) ≤ _; omega⟩, ⟨by show _ ≤ 1; omega, by show 1 ≤ _; omega⟩⟩)
        generalize hvv : vF ⟨-(N1 : Int), 1⟩ = vv at *
        generalize htx : txF ⟨-(N1 : Int), 1⟩ = tx at *
        clear hvv htx RB EF EE EF2 EE2
        have ze : K = s.size := by omega
        subst ze
        go_wp2_with fail
        refine (V.out _).mono ?_
        rintro e w4 ⟨rfl, hb⟩
        replace X := (X.alloc _ _).to hb
        clear hb hr
        have hr := X.r2
        cases vv
        · have Z := hide (NO.out (by rw [RB2.out]; simp))
          clear V TX
          go_wp2
          exact bodyPost_ret (v := .tuple #[.agg #[.int .i64 0, .int .i64 0], .bool false]) (by simp [results, Tryd.results40, hr, go_sem]) rfl (RetFB.mk (s' := ⟨0, 0⟩) (by have HX := X.1; have hz := HX.size; go_grown) Z.out.1 Z.out.2)
        go_wp2_with fail
        refine (TX.out _).mono ?_
        rintro e w5 ⟨rfl, hb⟩
        replace X := X.to hb
        clear hb hr
        have hr := X.r2
        by_cases q : tx = s.data.toList
        · have Z := hide (OK.out (by rw [RB2.out]; simp [q]))
          have q1 : (tx == s.data.toList) = true := by simp [q]
          clear V TX q
          go_wp2
          exact bodyPost_ret (v := .tuple #[.agg #[.int .i64 (-(N1 : Int)), .int .i64 (1)], .bool true]) (by simp [results, Tryd.results40, hr, go_sem]) rfl (RetFB.mk (s' := ⟨-(N1 : Int), 1⟩) (by have HX := X.1; have hz := HX.size; go_grown) (Z.out.1.trans EF3.out) Z.out.2)
        · have Z := hide (NO.out (by rw [RB2.out]; simp [q]))
          have q1 : (tx == s.data.toList) = false := by simp [q]
          clear V TX q
          go_wp2
          exact bodyPost_ret (v := .tuple #[.agg #[.int .i64 0, .int .i64 0], .bool false]) (by simp [results, Tryd.results40, hr, go_sem]) rfl (RetFB.mk (s' := ⟨0, 0⟩) (by have HX := X.1; have hz := HX.size; go_grown) Z.out.1 Z.out.2)
    · have q0 : ((s[0].toNat : Int) == 45) = false := by simpa using m
      have e1 : I = 0 := by rw [EI.out, if_neg]; rw [HB z]; intro e; injection e with e; exact m (by rw [e]; rfl)
      subst e1
      clear EI HB m
      go_enter Tryd.func40, Tryd.ntmps40
      go_wp2_with fail
      refine (D1.out _).mono ?_
      rintro e w1 ⟨rfl, hb⟩
      replace X := X.to hb
      clear hb hr
      have hr := X.r1
      by_cases ks : K < s.size
      · have k1 : decide ((K : Int) < (s.size : Int)) = true := decide_eq_true (by omega)
        have SS := S1.out ks
        have P2 := hide (D2.out ks)
        by_cases c47 : (s[K].toNat : Int) = 47
        · have q3 : ((s[K].toNat : Int) == 47) = true := by simp [c47]
          have es : sl = true := by rw [SS]; exact decide_eq_true c47
          have EF2 : Hid (rf = ⟨(N1 : Int), (N2 : Int)⟩) := hide (by rw [EF.out, es]; simp)
          have EF3 := EF2
          have EE2 : Hid (re = K + 1 + L2) := hide (by rw [EE.out, es]; simp)
          have b2 : (N2 : Int) ≤ 100000000000 := by have := DB.out.1; omega
          have b3 : K + 1 + L2 ≤ s.size := DB.out.2 ks
          have b4 : (((K + 1 + L2 : Nat) : Int)) ≤ 4294967280 := by omega
          clear SS S1 S2 D1 D2 c47 es DB
          go_wp2_with fail
          refine (P2.out _).mono ?_
          rintro e w2 ⟨rfl, hb⟩
          replace X := (X.to hb).alloc #[.int .i64 ((N1 : Int)), .int .i64 (N2 : Int)] 24
          clear hb hr
          have hr := X.r2
          generalize hE : K + 1 + L2 = E at *
          have RB2 : Hid (rb = (decide (E = s.size) && vF ⟨(N1 : Int), (N2 : Int)⟩ && decide (txF ⟨(N1 : Int), (N2 : Int)⟩ = s.data.toList))) := hide (by rw [RB.out, EF2.out, EE2.out])
          have V := hide (fun W => refv_any ⟨(N1 : Int), (N2 : Int)⟩ W)
          have TX := hide (fun W => rtext_any ⟨(N1 : Int), (N2 : Int)⟩ W ⟨⟨by show _ ≤ (N1 : Int); omega, by show (N1 : Int) ≤ _; omega⟩, ⟨by show _ ≤ (N2 : Int); omega, by show (N2 : Int) ≤ _; omega⟩⟩)
          generalize hvv : vF ⟨(N1 : Int), (N2 : Int)⟩ = vv at *
          generalize htx : txF ⟨(N1 : Int), (N2 : Int)⟩ = tx at *
          clear hvv htx RB EF EE EF2 EE2
          by_cases ze : E = s.size
          rotate_left
          · have q5 : ((((E : Nat) : Int)) == (s.size : Int)) = false := by simp; omega
            have q6 : (E == s.size) = false := by simp [ze]
            have q7 : (E != s.size) = true := by simp [ze]
            have Z := hide (NO.out (by rw [RB2.out]; simp [ze]))
            clear V TX
            go_wp2
            exact bodyPost_ret (v := .tuple #[.agg #[.int .i64 0, .int .i64 0], .bool false]) (by simp [results, Tryd.results40, hr, go_sem]) rfl (RetFB.mk (s' := ⟨0, 0⟩) (by have HX := X.1; have hz := HX.size; go_grown) Z.out.1 Z.out.2)
          clear hE
          subst ze
          go_wp2_with fail
          refine (V.out _).mono ?_
          rintro e w4 ⟨rfl, hb⟩
          replace X := X.to hb
          clear hb hr
          have hr := X.r2
          cases vv
          · have Z := hide (NO.out (by rw [RB2.out]; simp))
            clear V TX
            go_wp2
            exact bodyPost_ret (v := .tuple #[.agg #[.int .i64 0, .int .i64 0], .bool false]) (by simp [results, Tryd.results40, hr, go_sem]) rfl (RetFB.mk (s' := ⟨0, 0⟩) (by have HX := X.1; have hz := HX.size; go_grown) Z.out.1 Z.out.2)
          go_wp2_with fail
          refine (TX.out _).mono ?_
          rintro e w5 ⟨rfl, hb⟩
          replace X := X.to hb
          clear hb hr
          have hr := X.r2
          by_cases q : tx = s.data.toList
          · have Z := hide (OK.out (by rw [RB2.out]; simp [q]))
            have q1 : (tx == s.data.toList) = true := by simp [q]
            clear V TX q
            go_wp2
            exact bodyPost_ret (v := .tuple #[.agg #[.int .i64 ((N1 : Int)), .int .i64 ((N2 : Int))], .bool true]) (by simp [results, Tryd.results40, hr, go_sem]) rfl (RetFB.mk (s' := ⟨(N1 : Int), (N2 : Int)⟩) (by have HX := X.1; have hz := HX.size; go_grown) (Z.out.1.trans EF3.out) Z.out.2)
          · have Z := hide (NO.out (by rw [RB2.out]; simp [q]))
            have q1 : (tx == s.data.toList) = false := by simp [q]
            clear V TX q
            go_wp2
            exact bodyPost_ret (v := .tuple #[.agg #[.int .i64 0, .int .i64 0], .bool false]) (by simp [results, Tryd.results40, hr, go_sem]) rfl (RetFB.mk (s' := ⟨0, 0⟩) (by have HX := X.1; have hz := HX.size; go_grown) Z.out.1 Z.out.2)
        · have q3 : ((s[K].toNat : Int) == 47) = false := by simpa using c47
          have es : sl = false := by rw [SS]; exact decide_eq_false c47
          have EF2 : Hid (rf = ⟨(N1 : Int), 1⟩) := hide (by rw [EF.out, es]; simp)
          have EF3 := EF2
          have EE2 : Hid (re = K) := hide (by rw [EE.out, es]; simp)
          clear SS S1 S2 D1 D2 P2 c47 es DB
          have RB2 : Hid (rb = (decide (K = s.size) && vF ⟨(N1 : Int), 1⟩ && decide (txF ⟨(N1 : Int), 1⟩ = s.data.toList))) := hide (by rw [RB.out, EF2.out, EE2.out])
          have V := hide (fun W => refv_any ⟨(N1 : Int), 1⟩ W)
          have TX := hide (fun W => rtext_any ⟨(N1 : Int), 1⟩ W ⟨⟨by show _ ≤ (N1 : Int); omega, by show (N1 : Int) ≤ _; omega⟩, ⟨by show _ ≤ 1; omega, by show 1 ≤ _; omega⟩⟩)
          generalize hvv : vF ⟨(N1 : Int), 1⟩ = vv at *
          generalize htx : txF ⟨(N1 : Int), 1⟩ = tx at *
          clear hvv htx RB EF EE EF2 EE2
          have ze : ¬ K = s.size := by omega
          have q5 : ((((K : Nat) : Int)) == (s.size : Int)) = false := by simp; omega
          have q6 : (K == s.size) = false := by simp [ze]
          have q7 : (K != s.size) = true := by simp [ze]
          have Z := hide (NO.out (by rw [RB2.out]; simp [ze]))
          clear V TX
          go_wp2
          exact bodyPost_ret (v := .tuple #[.agg #[.int .i64 0, .int .i64 0], .bool false]) (by simp [results, Tryd.results40, hr, go_sem]) rfl (RetFB.mk (s' := ⟨0, 0⟩) (by have HX := X.1; have hz := HX.size; go_grown) Z.out.1 Z.out.2)
      · have k1 : decide ((K : Int) < (s.size : Int)) = false := decide_eq_false (by omega)
        have es : sl = false := S2.out ks
        have EF2 : Hid (rf = ⟨(N1 : Int), 1⟩) := hide (by rw [EF.out, es]; simp)
        have EF3 := EF2
        have EE2 : Hid (re = K) := hide (by rw [EE.out, es]; simp)
        clear S1 S2 D1 D2 es DB
        have RB2 : Hid (rb = (decide (K = s.size) && vF ⟨(N1 : Int), 1⟩ && decide (txF ⟨(N1 : Int), 1⟩ = s.data.toList))) := hide (by rw [RB.out, EF2.out, EE2.out])
        have V := hide (fun W => refv_any ⟨(N1 : Int), 1⟩ W)
        have TX := hide (fun W => rtext_any ⟨(N1 : Int), 1⟩ W ⟨⟨by show _ ≤ (N1 : Int); omega, by show (N1 : Int) ≤ _; omega⟩, ⟨by show _ ≤ 1; omega, by show 1 ≤ _; omega⟩⟩)
        generalize hvv : vF ⟨(N1 : Int), 1⟩ = vv at *
        generalize htx : txF ⟨(N1 : Int), 1⟩ = tx at *
        clear hvv htx RB EF EE EF2 EE2
        have ze : K = s.size := by omega
        subst ze
        go_wp2_with fail
        refine (V.out _).mono ?_
        rintro e w4 ⟨rfl, hb⟩
        replace X := (X.alloc _ _).to hb
        clear hb hr
        have hr := X.r2
        cases vv
        · have Z := hide (NO.out (by rw [RB2.out]; simp))
          clear V TX
          go_wp2
          exact bodyPost_ret (v := .tuple #[.agg #[.int .i64 0, .int .i64 0], .bool false]) (by simp [results, Tryd.results40, hr, go_sem]) rfl (RetFB.mk (s' := ⟨0, 0⟩) (by have HX := X.1; have hz := HX.size; go_grown) Z.out.1 Z.out.2)
        go_wp2_with fail
        refine (TX.out _).mono ?_
        rintro e w5 ⟨rfl, hb⟩
        replace X := X.to hb
        clear hb hr
        have hr := X.r2
        by_cases q : tx = s.data.toList
        · have Z := hide (OK.out (by rw [RB2.out]; simp [q]))
          have q1 : (tx == s.data.toList) = true := by simp [q]
          clear V TX q
          go_wp2
          exact bodyPost_ret (v := .tuple #[.agg #[.int .i64 ((N1 : Int)), .int .i64 (1)], .bool true]) (by simp [results, Tryd.results40, hr, go_sem]) rfl (RetFB.mk (s' := ⟨(N1 : Int), 1⟩) (by have HX := X.1; have hz := HX.size; go_grown) (Z.out.1.trans EF3.out) Z.out.2)
        · have Z := hide (NO.out (by rw [RB2.out]; simp [q]))
          have q1 : (tx == s.data.toList) = false := by simp [q]
          clear V TX q
          go_wp2
          exact bodyPost_ret (v := .tuple #[.agg #[.int .i64 0, .int .i64 0], .bool false]) (by simp [results, Tryd.results40, hr, go_sem]) rfl (RetFB.mk (s' := ⟨0, 0⟩) (by have HX := X.1; have hz := HX.size; go_grown) Z.out.1 Z.out.2)
  · have z1 : decide ((0 : Int) < (s.size : Int)) = false := decide_eq_false (by omega)
    have e1 : I = 0 := by omega
    subst e1
    clear EI HB
    go_enter Tryd.func40, Tryd.ntmps40
    go_wp2_with fail
    refine (D1.out _).mono ?_
    rintro e w1 ⟨rfl, hb⟩
    replace X := X.to hb
    clear hb hr
    have hr := X.r1
    have ks : ¬ K < s.size := by omega
    have k1 : decide ((K : Int) < (s.size : Int)) = false := decide_eq_false (by omega)
    have es : sl = false := S2.out ks
    have EF2 : Hid (rf = ⟨(N1 : Int), 1⟩) := hide (by rw [EF.out, es]; simp)
    have EF3 := EF2
    have EE2 : Hid (re = K) := hide (by rw [EE.out, es]; simp)
    clear S1 S2 D1 D2 es DB
    have RB2 : Hid (rb = (decide (K = s.size) && vF ⟨(N1 : Int), 1⟩ && decide (txF ⟨(N1 : Int), 1⟩ = s.data.toList))) := hide (by rw [RB.out, EF2.out, EE2.out])
    have V := hide (fun W => refv_any ⟨(N1 : Int), 1⟩ W)
    have TX := hide (fun W => rtext_any ⟨(N1 : Int), 1⟩ W ⟨⟨by show _ ≤ (N1 : Int); omega, by show (N1 : Int) ≤ _; omega⟩, ⟨by show _ ≤ 1; omega, by show 1 ≤ _; omega⟩⟩)
    generalize hvv : vF ⟨(N1 : Int), 1⟩ = vv at *
    generalize htx : txF ⟨(N1 : Int), 1⟩ = tx at *
    clear hvv htx RB EF EE EF2 EE2
    have ze : K = s.size := by omega
    subst ze
    go_wp2_with fail
    refine (V.out _).mono ?_
    rintro e w4 ⟨rfl, hb⟩
    replace X := (X.alloc _ _).to hb
    clear hb hr
    have hr := X.r2
    cases vv
    · have Z := hide (NO.out (by rw [RB2.out]; simp))
      clear V TX
      go_wp2
      exact bodyPost_ret (v := .tuple #[.agg #[.int .i64 0, .int .i64 0], .bool false]) (by simp [results, Tryd.results40, hr, go_sem]) rfl (RetFB.mk (s' := ⟨0, 0⟩) (by have HX := X.1; have hz := HX.size; go_grown) Z.out.1 Z.out.2)
    go_wp2_with fail
    refine (TX.out _).mono ?_
    rintro e w5 ⟨rfl, hb⟩
    replace X := X.to hb
    clear hb hr
    have hr := X.r2
    by_cases q : tx = s.data.toList
    · have Z := hide (OK.out (by rw [RB2.out]; simp [q]))
      have q1 : (tx == s.data.toList) = true := by simp [q]
      clear V TX q
      go_wp2
      exact bodyPost_ret (v := .tuple #[.agg #[.int .i64 ((N1 : Int)), .int .i64 (1)], .bool true]) (by simp [results, Tryd.results40, hr, go_sem]) rfl (RetFB.mk (s' := ⟨(N1 : Int), 1⟩) (by have HX := X.1; have hz := HX.size; go_grown) (Z.out.1.trans EF3.out) Z.out.2)
    · have Z := hide (NO.out (by rw [RB2.out]; simp [q]))
      have q1 : (tx == s.data.toList) = false := by simp [q]
      clear V TX q
      go_wp2
      exact bodyPost_ret (v := .tuple #[.agg #[.int .i64 0, .int .i64 0], .bool false]) (by simp [results, Tryd.results40, hr, go_sem]) rfl (RetFB.mk (s' := ⟨0, 0⟩) (by have HX := X.1; have hz := HX.size; go_grown) Z.out.1 Z.out.2)
end Go.Proofs.YtbmckddjdkjplaaDoor
