/- The program's Mix: the stores after a step of a mixture and the volume, or the error; nothing that was there is turned. -/
import Derived.Test.YtljaibbmceknfaaMixPlain
import Derived.Test.YtljaibbmceknfaaRunRef
namespace Go.Proofs.Ytljaibbmceknfaa
open Go.RowKit

def MixPost (l : List Cls) (ar : List Int) (ss : List Sto) (d t : Int) (w : World) (e : Ending) (w' : World) : Prop :=
  Below w.heap.size w w' ∧ ∃ (er vol : Int) (A : Option Addr) (xs : List Sto) (cap : Nat), e = .returned (.tuple #[.slice A xs.length cap, .int .i64 vol, .int .i64 er]) ∧ StoSl w' A xs ∧ (∀ a, A = some a → w.heap.size ≤ a.block) ∧ er = mixE l ar ss d t ∧
    (er = 0 → xs = mixS d t l ss ∧ vol = mixV d l ar ss) ∧ (er ≠ 0 → xs = [] ∧ vol = 0)
theorem MixPost.err {l : List Cls} {ar : List Int} {ss : List Sto} {d t : Int} {w w' : World} {er : Int} (hb : Below w.heap.size w w') (he : er = mixE l ar ss d t) (h0 : er ≠ 0) :
    MixPost l ar ss d t w (.returned (.tuple #[.slice none 0 0, .int .i64 0, .int .i64 er])) w' :=
  ⟨hb, er, 0, none, [], 0, rfl, StoSl.nil _ _, (fun a h => by cases h), he, fun h => absurd h h0, fun _ => ⟨rfl, rfl⟩⟩
theorem sto_info : (Try.prog.info? 25).map (fun i => (i.zero, i.size, i.bytes)) = some (some Sto.zero.val, 2, 16) := by kernel_rfl
theorem row_setN {w : World} {base g : Nat} {e : TypeId} {size n : Nat} {v : Value} {xs : List Value} (h : w.ownsRow base e size v n xs) (hn : v.ownBlock ≠ some g) (i : Nat) (u : Value) : (w.setCell ⟨g, i, none⟩ u).ownsRow base e size v n xs :=
  h.kept (row := some g) ⟨rfl, rfl, rfl, by simp [World.setCell], fun k hk hne => Below.heap_setCell w ⟨g, i, none⟩ u k (fun e => hne (by rw [e]))⟩ (.inr hn)
def V0 (l : List Cls) (ar : List Int) (ss : List Sto) (d : Int) (k : Nat) : Int := mixV d (l.take k) (ar.take k) (ss.take k)
theorem mixV_bd {d : Int} {l : List Cls} {ar : List Int} {ss : List Sto} (hl1 : ar.length = l.length) (hl2 : ss.length = l.length) (ha : areaB ar = true)
    (hr : ∀ i (h1 : i < l.length) (h2 : i < ss.length), 0 ≤ runoff l[i] ss[i] d ∧ runoff l[i] ss[i] d ≤ 4194304000) :
    ∀ k, k ≤ l.length → 0 ≤ mixV d (l.take k) (ar.take k) (ss.take k) ∧ mixV d (l.take k) (ar.take k) (ss.take k) ≤ (ar.take k).sum * 4194304000
  | 0, _ => by simp [mixV]
  | k + 1, hk => by
    have i := mixV_bd hl1 hl2 ha hr k (by omega)
    have a := area_at ha k (by omega)
    have r := hr k (by omega) (by omega)
    rw [mixV_take d l ar ss k (by omega) (by omega) (by omega), sum_take ar k (by omega), Int.add_mul]
    have p0 := Int.mul_nonneg a.1 r.1
    have p1 := Int.mul_le_mul_of_nonneg_left r.2 a.1
    omega
theorem sum_part {ar : List Int} (h : areaB ar = true) (k : Nat) : (ar.take k).sum ≤ ar.sum := by
  have e : ar.sum = (ar.take k).sum + (ar.drop k).sum := by rw [← List.sum_append, List.take_append_drop]
  have b := sum_bd (ar := ar.drop k) (fun i hi => by rw [List.getElem_drop]; exact area_at h _ _) (ar.drop k).length (Nat.le_refl _)
  rw [List.take_length] at b
  omega
set_option maxRecDepth 100000 in
set_option maxHeartbeats 4000000 in
theorem mix_any (l : List Cls) (A : Option Addr) (cap : Nat) (ar : List Int) (A1 : Option Addr) (cap1 : Nat) (ss : List Sto) (A2 : Option Addr) (cap2 : Nat) (d t : Int) (w : World) (hl : ClsSl w A l) (ha : IntSl w A1 ar) (hs : StoSl w A2 ss) :
    Calls Try.prog 22 #[.slice A l.length cap, .slice A1 ar.length cap1, .slice A2 ss.length cap2, .int .i64 d, .int .i64 t] w (MixPost l ar ss d t w) := by
  have hlen : l.length ≤ 9223372036854775807 := hl.1.1
  have hlen1 : ar.length ≤ 9223372036854775807 := ha.1.1
  have hlen2 : ss.length ≤ 9223372036854775807 := hs.1
  have HL := hide hl
  have HA := hide ha
  have HS := hide hs
  clear hl ha hs
  rcases Bool.eq_false_or_eq_true (validB l) with t1 | t1
  rotate_left
  · go_enter Try.func22, Try.ntmps22
    go_wp2_with fail
    refine (luvalid_any l A cap _ HL.out).mono ?_
    rintro e w1 ⟨rfl, hb⟩
    go_wp2
    exact bodyPost_ret (v := .tuple #[.slice none 0 0, .int .i64 0, .int .i64 1]) (by simp [results, Try.results22, go_sem]) rfl (MixPost.err hb (by simp [mixE, t1]) (by decide))
  by_cases t2 : ar.length = l.length ∧ ss.length = l.length
  rotate_left
  · have T2 := hide t2
    have t3 : ¬ ar.length = l.length ∨ (ar.length = l.length ∧ ¬ ss.length = l.length) := by omega
    clear t2
    rcases t3 with t3 | ⟨t3, t4⟩
    all_goals
      go_enter Try.func22, Try.ntmps22
      go_wp2_with fail
      refine (luvalid_any l A cap _ HL.out).mono ?_
      rintro e w1 ⟨rfl, hb⟩
      have HB := hide hb
      clear hb
    · have q1 : ((ar.length : Int) == (l.length : Int)) = false := by simp; omega
      have q2 : ((ar.length : Int) != (l.length : Int)) = true := by simp; omega
      clear t3
      go_wp2
      exact bodyPost_ret (v := .tuple #[.slice none 0 0, .int .i64 0, .int .i64 3]) (by simp [results, Try.results22, go_sem]) rfl (MixPost.err HB.out (by simp [mixE, t1, T2.out]) (by decide))
    · have q1 : ((ar.length : Int) == (l.length : Int)) = true := by simp; omega
      have q2 : ((ar.length : Int) != (l.length : Int)) = false := by simp; omega
      have q3 : ((ss.length : Int) == (l.length : Int)) = false := by simp; omega
      have q4 : ((ss.length : Int) != (l.length : Int)) = true := by simp; omega
      clear t3 t4
      go_wp2
      exact bodyPost_ret (v := .tuple #[.slice none 0 0, .int .i64 0, .int .i64 3]) (by simp [results, Try.results22, go_sem]) rfl (MixPost.err HB.out (by simp [mixE, t1, T2.out]) (by decide))
  obtain ⟨t2, t3⟩ := t2
  go_enter Try.func22, Try.ntmps22
  go_wp2_with fail
  refine (luvalid_any l A cap _ HL.out).mono ?_
  rintro e w1 ⟨rfl, hb⟩
  have q1 : ((ar.length : Int) == (l.length : Int)) = true := by simp; omega
  have q2 : ((ar.length : Int) != (l.length : Int)) = false := by simp; omega
  have q3 : ((ss.length : Int) == (l.length : Int)) = true := by simp; omega
  have q4 : ((ss.length : Int) != (l.length : Int)) = false := by simp; omega
  have HB := hide hb
  have T2 := hide t2
  have T3 := hide t3
  clear hb t2 t3
  go_wp2
  go_loopw [41] (fun v wr => ∃ k : Nat, k ≤ l.length ∧ v = .int .i64 k ∧ Below w.heap.size w wr ∧ Hid (∀ i (h1 : i < l.length) (h2 : i < ss.length), i < k → holdsB l[i] ss[i] = true)) (fun v _ => l.length - (intOf v).toNat)
  case atStart => exact ⟨0, Nat.zero_le _, rfl, HB.out, hide (fun _ _ _ h => by omega)⟩
  case round =>
    obtain ⟨k, hk, rfl, hb, hno⟩ := hrel
    by_cases hlt : k < l.length
    · have hlt2 : k < ss.length := by rw [T3.out]; exact hlt
      obtain ⟨b, off, rfl, hbl, hat⟩ := (HL.out.below hb).2 (by omega)
      obtain ⟨b', off', rfl, hbl', hat'⟩ := (HS.out.below hb).2 (by omega)
      have hnm : l[k].nm.size ≤ maxLen := HL.out.1.2 k hlt
      obtain ⟨c0, c1, c2, c3, c4⟩ := hat k hlt
      obtain ⟨s0, s1⟩ := hat' k hlt2
      have hv := valid_eq l[k] ss[k]
      rw [((of_validB t1).2.2 k hlt).1, Bool.true_and] at hv
      have HB := hide hb
      have g0 : (0 : Int) ≤ (k : Int) := by omega
      have g1 : (k : Int) < (l.length : Int) := by omega
      have g2 : (k : Int) < (ss.length : Int) := by omega
      clear hat hat' hb q1 q2 q3 q4
      rcases Bool.eq_false_or_eq_true (holdsB l[k] ss[k]) with h | h
      all_goals
        rw [h] at hv
        have H := hide h
        clear h
        go_wp2_with fail
        go_region_held3 (fun w' => w'.cell? ⟨b, off + k * 5, none⟩ = some (.string l[k].nm) ∧ w'.cell? ⟨b, off + k * 5 + 1, none⟩ = some (.int .i64 l[k].se) ∧ w'.cell? ⟨b, off + k * 5 + 2, none⟩ = some (.int .i64 l[k].we) ∧ w'.cell? ⟨b, off + k * 5 + 3, none⟩ = some (.int .i64 l[k].ro) ∧
            w'.cell? ⟨b, off + k * 5 + 4, none⟩ = some (.int .i64 l[k].dr) ∧ w'.cell? ⟨b', off' + k * 2, none⟩ = some (.int .i64 ss[k].wt) ∧ w'.cell? ⟨b', off' + k * 2 + 1, none⟩ = some (.int .i64 ss[k].he)) (go_keep)
          (first | (go_at_call 16; refine (validStore_any l[k] ss[k] _ hnm).mono ?_; rintro e w3 ⟨rfl, hb⟩; rw [hv]; have hk3 := keeps hb; have hc3 := (below_cells hb).1; have hf3 := (below_cells hb).2; have hz3 := hb.size))
      · go_wp2
        go_roundw
        case rel =>
          refine ⟨k + 1, by omega, by go_num, below_via (below_drewN HB.out 1) HB.out.size hb, hide fun i h1 h2 hi => ?_⟩
          by_cases e : i = k
          · subst e; exact H.out
          · exact hno.out i h1 h2 (by omega)
        case measure => simp [intOf]; omega
      · go_wp2
        exact bodyPost_ret (v := .tuple #[.slice none 0 0, .int .i64 0, .int .i64 1]) (by simp [results, Try.results22, go_sem]) rfl (MixPost.err (below_via (below_drewN HB.out 1) HB.out.size hb) (by simp [mixE, t1, T2.out, T3.out, stoOk_not hlt hlt2 H.out]) (by decide))
    · have hok : stoOkB l ss = true := stoOk_yes (fun i h1 h2 => hno.out i h1 h2 (by omega))
      have HB := hide hb
      have HOK := hide hok
      clear hb hok hno
      go_wp2
      go_loopw [14, 57] (fun v14 v57 wr => ∃ k : Nat, k ≤ ar.length ∧ v57 = .int .i64 k ∧ v14 = .int .i64 (ar.take k).sum ∧ Below w.heap.size w wr ∧ Hid (∀ i (h1 : i < ar.length), i < k → inB ar[i] 1073741824 = true)) (fun _ v _ => ar.length - (intOf v).toNat)
      case atStart => exact ⟨0, Nat.zero_le _, rfl, rfl, HB.out, hide (fun _ _ h => by omega)⟩
      case round =>
        clear HB
        obtain ⟨j, hj, rfl, rfl, hb, hno⟩ := hrel
        have hsum : 0 ≤ (ar.take j).sum ∧ (ar.take j).sum ≤ j * 1073741824 := by
          have h := sum_bd (ar := ar.take j) (fun i hi => by
            have hi' : i < ar.length := by simp at hi; omega
            have := inB_iff.1 (hno.out i hi' (by simp at hi; omega))
            simpa using this) j (by simp; omega)
          rw [List.take_take, Nat.min_self] at h
          exact h
        have h16 := (of_validB t1).2.1
        have hjl : j ≤ 16 := by have := T2.out; omega
        by_cases hlt : j < ar.length
        · obtain ⟨b, off, rfl, hbl, hat⟩ := (HA.out.below hb).2 (by omega)
          have c0 := hat j hlt
          have HB := hide hb
          have eS : Hid ((ar.take (j + 1)).sum = (ar.take j).sum + ar[j]) := sum_take ar j hlt
          have hin := @area_not ar j hlt
          have HI := hide hin
          have hx := @inB_iff ar[j] 1073741824
          have HX := hide hx
          clear hat hb hin hx
          generalize hS : (ar.take j).sum = S at *
          clear hS
          rcases Bool.eq_false_or_eq_true (inB ar[j] 1073741824) with h | h
          · have hx := HX.out.1 h
            have H := hide h
            clear h HI HX
            generalize hx0 : ar[j] = x at *
            have HX0 := hide hx0
            clear hx0
            go_wp2_with fail
            refine (within_any _ _ _).mono ?_
            rintro e w3 ⟨rfl, rfl⟩
            rw [H.out]
            go_wp2
            go_roundw
            case rel =>
              refine ⟨j + 1, by omega, by go_num, by rw [eS.out], HB.out, hide fun i h1 hi => ?_⟩
              by_cases e : i = j
              · subst e; rw [HX0.out]; exact H.out
              · exact hno.out i h1 (by omega)
            case measure => simp [intOf]; omega
          · have H := hide (HI.out h)
            clear HI HX
            have H' := hide h
            clear h
            go_wp2_with fail
            refine (within_any _ _ _).mono ?_
            rintro e w3 ⟨rfl, rfl⟩
            rw [H'.out]
            go_wp2
            exact bodyPost_ret (v := .tuple #[.slice none 0 0, .int .i64 0, .int .i64 2]) (by simp [results, Try.results22, go_sem]) rfl (MixPost.err HB.out (by simp [mixE, t1, T2.out, T3.out, HOK.out, H.out]) (by decide))
        · have hare : areaB ar = true := area_yes (fun i h1 => hno.out i h1 (by omega))
          have e : j = ar.length := by omega
          subst e
          rw [List.take_length] at hsum
          simp only [List.take_length]
          have HB := hide hb
          have HAR := hide hare
          clear hb hare hno
          have HE := hide (show mixE l ar ss d t = if inB d 4194304 = true ∧ lenB t = true then (if ar.sum ≤ 1073741824 then 0 else 5) else 2 by simp [mixE, t1, T2.out, T3.out, HOK.out, HAR.out])
          rcases Bool.eq_false_or_eq_true (inB d 4194304) with t4 | t4
          rotate_left
          · go_wp2_with fail
            refine (within_any _ _ _).mono ?_
            rintro e w3 ⟨rfl, rfl⟩
            rw [t4]
            go_wp2
            exact bodyPost_ret (v := .tuple #[.slice none 0 0, .int .i64 0, .int .i64 2]) (by simp [results, Try.results22, go_sem]) rfl (MixPost.err HB.out (by rw [HE.out]; simp [t4]) (by decide))
          go_wp2_with fail
          refine (within_any _ _ _).mono ?_
          rintro e w3 ⟨rfl, rfl⟩
          rw [t4]
          go_wp2_with fail
          refine (length_any _ _).mono ?_
          rintro e w3 ⟨rfl, rfl⟩
          rcases Bool.eq_false_or_eq_true (lenB t) with t5 | t5
          rotate_left
          · rw [t5]
            go_wp2
            exact bodyPost_ret (v := .tuple #[.slice none 0 0, .int .i64 0, .int .i64 2]) (by simp [results, Try.results22, go_sem]) rfl (MixPost.err HB.out (by rw [HE.out]; simp [t5]) (by decide))
          rw [t5]
          by_cases t6 : ar.sum ≤ 1073741824
          rotate_left
          · go_wp2
            exact bodyPost_ret (v := .tuple #[.slice none 0 0, .int .i64 0, .int .i64 5]) (by simp [results, Try.results22, go_sem]) rfl (MixPost.err HB.out (by rw [HE.out]; simp [t4, t5, t6]) (by decide))
          go_wp2
          have htb := lenB_iff.1 t5
          have hdb := inB_iff.1 t4
          clear q1 q2 q3 q4
          go_loopw [17, 18, 80] (fun v17 v18 v80 wr => ∃ k : Nat, k ≤ l.length ∧ v80 = .int .i64 k ∧ v18 = .int .i64 (mixV d (l.take k) (ar.take k) (ss.take k)) ∧ Below w.heap.size w wr ∧
              wr.ownsRow w.heap.size 25 2 v17 k (flatS (mixS d t (l.take k) (ss.take k)))) (fun _ _ v _ => l.length - (intOf v).toNat)
          case atStart => exact ⟨0, Nat.zero_le _, rfl, by simp [mixV], HB.out, by simpa [mixS, flatS] using World.ownsRow_nil _ _ _ _⟩
          case round =>
            clear HB
            obtain ⟨i, hi, rfl, rfl, hb, hrow⟩ := hrel
            by_cases hlt : i < l.length
            · have hlt1 : i < ar.length := by rw [T2.out]; exact hlt
              have hlt2 : i < ss.length := by rw [T3.out]; exact hlt
              obtain ⟨b, off, rfl, hbl, hat⟩ := (HL.out.below hb).2 (by omega)
              obtain ⟨b1, off1, rfl, hbl1, hat1⟩ := (HA.out.below hb).2 (by omega)
              obtain ⟨b2, off2, rfl, hbl2, hat2⟩ := (HS.out.below hb).2 (by omega)
              obtain ⟨c0, c1, c2, c3, c4⟩ := hat i hlt
              have a0 := hat1 i hlt1
              obtain ⟨s0, s1⟩ := hat2 i hlt2
              have hh := stoOk_at HOK.out i hlt hlt2
              have hvs := (valid_eq l[i] ss[i]).trans (by rw [((of_validB t1).2.2 i hlt).1, hh])
              have HV := hide (validSt_iff hvs)
              have eV := hide (mixV_take d l ar ss i hlt hlt1 hlt2)
              have eS := hide (mixS_take d t l ss i hlt hlt2)
              have hab := area_at HAR.out i hlt1
              have hro := runoff_bd HV.out.1 HV.out.2 hdb.1 hdb.2
              have hall : ∀ j (h1 : j < l.length) (h2 : j < ss.length), 0 ≤ runoff l[j] ss[j] d ∧ runoff l[j] ss[j] d ≤ 4194304000 := fun j h1 h2 => by
                have hv := validSt_iff ((valid_eq l[j] ss[j]).trans (by rw [((of_validB t1).2.2 j h1).1, stoOk_at HOK.out j h1 h2]; rfl))
                have := runoff_bd hv.1 hv.2 hdb.1 hdb.2
                omega
              have vb := mixV_bd T2.out T3.out HAR.out hall i (by omega)
              have vb2 := mixV_bd T2.out T3.out HAR.out hall (i + 1) (by omega)
              have vs := sum_part HAR.out (i + 1)
              rw [eV.out] at vb2
              have vb3 : V0 l ar ss d i + ar[i] * runoff l[i] ss[i] d ≤ 4503599627370496000 := by unfold V0; omega
              have A0 := hide (fun W' (hW : Below w.heap.size w W') => ((HA.out.below hW).2 (by omega)))
              have A1 : Hid (∀ W', Below w.heap.size w W' → W'.cell? ⟨b1, off1 + i, none⟩ = some (.int .i64 ar[i])) := hide fun W' hW => by
                obtain ⟨b9, o9, e9, _, h9⟩ := A0.out W' hW
                cases e9
                exact h9 i hlt1
              obtain ⟨vb0, _⟩ := vb
              have pb0 := Int.mul_nonneg hab.1 hro.1
              have vb4 := vb2.1
              unfold V0 at vb3
              clear vb2 vs A0 hall
              have HBB := hide hb
              have HR := hide hrow
              clear hat hat1 hat2 hh hvs hb hrow
              generalize mixV d (l.take i) (ar.take i) (ss.take i) = V at *
              generalize mixS d t (l.take i) (ss.take i) = M at *
              generalize l[i] = cc at *
              generalize ss[i] = sc at *
              generalize ar[i] = aa at *
              have h16 := (of_validB t1).2.1
              have hi16 : i ≤ 16 := by omega
              have n1 : ¬ wr.heap.size = b := by omega
              have n2 : ¬ wr.heap.size = b2 := by omega
              have n3 : ¬ wr.heap.size = b1 := by omega
              have g0 : (0 : Int) ≤ (i : Int) := by omega
              have g1 : (i : Int) < (l.length : Int) := by omega
              have g2 : (i : Int) < (ss.length : Int) := by omega
              have g3 : (i : Int) < (ar.length : Int) := by omega
              go_wp2_with fail
              go_region_held3 (fun w' => w'.cell? ⟨b, off + i * 5, none⟩ = some (.string cc.nm) ∧ w'.cell? ⟨b, off + i * 5 + 1, none⟩ = some (.int .i64 cc.se) ∧ w'.cell? ⟨b, off + i * 5 + 2, none⟩ = some (.int .i64 cc.we) ∧ w'.cell? ⟨b, off + i * 5 + 3, none⟩ = some (.int .i64 cc.ro) ∧
                  w'.cell? ⟨b, off + i * 5 + 4, none⟩ = some (.int .i64 cc.dr) ∧ w'.cell? ⟨b2, off2 + i * 2, none⟩ = some (.int .i64 sc.wt) ∧ w'.cell? ⟨b2, off2 + i * 2 + 1, none⟩ = some (.int .i64 sc.he)) (go_keep)
                (first | (go_at_call 38; refine (step_any cc sc d t _ HV.out.1 HV.out.2 hdb.1 hdb.2 (by omega) htb.2).mono ?_; rintro e w3 ⟨rfl, hb⟩; have hk3 := keeps hb; have hk4 := keeps_alloc hb; have hc3 := (below_cells hb).1; have hf3 := (below_cells hb).2; have hz3 := hb.size))
              · have hrow := (row_below (row_drew HR.out) hb).alloc (.cells #[.int .i64 (stepS cc sc d t).wt, .int .i64 (stepS cc sc d t).he] 25)
                have hBw : Below w.heap.size w (w3.alloc (.cells #[.int .i64 (stepS cc sc d t).wt, .int .i64 (stepS cc sc d t).he] 25)) := (below_via (below_drewN HBB.out 1) HBB.out.size hb).alloc (by have := HBB.out.size; have := hb.size; simp at *; omega) _
                have HBW := hide hBw
                have hzz := hBw.size
                obtain ⟨i0, hi0, hz0, hz1, hz2⟩ := info_parts sto_info
                have Y0 := ((Own.start w).to HBB.out).drew.to hb
                have Y := Y0.alloc #[.int .i64 (stepS cc sc d t).wt, .int .i64 (stepS cc sc d t).he] 25
                have hr := Y.r1
                clear hb hk3 hk4 hc3 hf3 hz3 hBw Y0
                generalize w3.heap.size = nb at *
                generalize w3.alloc (.cells #[.int .i64 (stepS cc sc d t).wt, .int .i64 (stepS cc sc d t).he] 25) = W at *
                go_wp2_with (at_builtin; refine wpList_append_own _ rfl _ _ 47 rfl w.heap.size 25 i0 Sto.zero.val 2 16 Try.underlying47 hi0 hz0 hz1 hz2 rfl (by decide) _ i (flatS M) rfl (hrow.alloc (.cells #[.int .i64 (stepS cc sc d t).wt, .int .i64 (stepS cc sc d t).he] 25)) ⟨W.heap.size, 0, none⟩ 1 1 [.int .i64 (stepS cc sc d t).wt, .int .i64 (stepS cc sc d t).he] rfl rfl (World.news_of_block (cs := #[.int .i64 (stepS cc sc d t).wt, .int .i64 (stepS cc sc d t).he]) (t := 25) (fr := (0, 0)) (heap_alloc_new W _)) (by simp [Value.oneCell']) (by unfold maxLen; omega) (by omega) (by simp; omega) ?_; intro v4 w4 hown4 hgrow _; have B4 : Below w.heap.size w w4 := (HBW.out.alloc HBW.out.size (.cells #[.int .i64 (stepS cc sc d t).wt, .int .i64 (stepS cc sc d t).he] 25)).grown hgrow (by have := HBW.out.size; simp; omega) (fun k hk => ((hrow.alloc (.cells #[.int .i64 (stepS cc sc d t).wt, .int .i64 (stepS cc sc d t).he] 25)).lt k hk).1); have a4 := A1.out _ B4)
                go_roundw
                case rel => exact ⟨i + 1, by omega, by go_num, by rw [eV.out], B4, by rw [eS.out, flatS_append]; exact hown4⟩
                case measure => simp [intOf]; omega
              · have hBz := HBB.out.size
                have hno := fun e => Nat.lt_irrefl _ ((HR.out.lt wr.heap.size e).2)
                have hrow := row_setN (row_setN (row_below (row_drew (HR.out.alloc (.cells #[.int .i64 0, .int .i64 0] 25))) hb) hno 0 (.int .i64 (stepS cc sc d t).wt)) hno 1 (.int .i64 (stepS cc sc d t).he)
                have hBw : Below w.heap.size w ((w3.setCell ⟨wr.heap.size, 0, none⟩ (.int .i64 (stepS cc sc d t).wt)).setCell ⟨wr.heap.size, 1, none⟩ (.int .i64 (stepS cc sc d t).he)) :=
                  below_set (below_set (below_via (below_drewN (HBB.out.alloc hBz (.cells #[.int .i64 0, .int .i64 0] 25)) 1) (by have := hb.size; simp at *; omega) hb) hBz _) hBz _
                have HBW := hide hBw
                have hzz := hBw.size
                obtain ⟨i0, hi0, hz0, hz1, hz2⟩ := info_parts sto_info
                have Y0 := (((Own.start w).to HBB.out).alloc #[.int .i64 0, .int .i64 0] 25).drew.to hb
                have Y := (Y0.set0 hBz (by simp) 0 (.int .i64 (stepS cc sc d t).wt)).set0 hBz (by simp) 1 (.int .i64 (stepS cc sc d t).he)
                have hr := Y.r1
                clear hb hk3 hk4 hc3 hf3 hz3 hBw Y0
                generalize wr.heap.size = nb at *
                generalize (w3.setCell ⟨nb, 0, none⟩ (.int .i64 (stepS cc sc d t).wt)).setCell ⟨nb, 1, none⟩ (.int .i64 (stepS cc sc d t).he) = W at *
                go_wp2_with (at_builtin; refine wpList_append_own _ rfl _ _ 47 rfl w.heap.size 25 i0 Sto.zero.val 2 16 Try.underlying47 hi0 hz0 hz1 hz2 rfl (by decide) _ i (flatS M) rfl (hrow.alloc (.cells #[.int .i64 (stepS cc sc d t).wt, .int .i64 (stepS cc sc d t).he] 25)) ⟨W.heap.size, 0, none⟩ 1 1 [.int .i64 (stepS cc sc d t).wt, .int .i64 (stepS cc sc d t).he] rfl rfl (World.news_of_block (cs := #[.int .i64 (stepS cc sc d t).wt, .int .i64 (stepS cc sc d t).he]) (t := 25) (fr := (0, 0)) (heap_alloc_new W _)) (by simp [Value.oneCell']) (by unfold maxLen; omega) (by omega) (by simp; omega) ?_; intro v4 w4 hown4 hgrow _; have B4 : Below w.heap.size w w4 := (HBW.out.alloc HBW.out.size (.cells #[.int .i64 (stepS cc sc d t).wt, .int .i64 (stepS cc sc d t).he] 25)).grown hgrow (by have := HBW.out.size; simp; omega) (fun k hk => ((hrow.alloc (.cells #[.int .i64 (stepS cc sc d t).wt, .int .i64 (stepS cc sc d t).he] 25)).lt k hk).1); have a4 := A1.out _ B4)
                go_roundw
                case rel => exact ⟨i + 1, by omega, by go_num, by rw [eV.out], B4, by rw [eS.out, flatS_append]; exact hown4⟩
                case measure => simp [intOf]; omega
            · have e : i = l.length := by omega
              subst e
              have k1 : l.take l.length = l := List.take_length
              have k2 : ar.take l.length = ar := by rw [← T2.out]; exact List.take_length
              have k3 : ss.take l.length = ss := by rw [← T3.out]; exact List.take_length
              rw [k1, k2, k3]
              rw [k1, k3] at hrow
              have h16 := (of_validB t1).2.1
              have hml := mixS_length d t l ss T3.out
              have HE0 : mixE l ar ss d t = 0 := by rw [HE.out]; simp [t4, t5, t6]
              have hv : ∃ A' m' c', u17 = .slice A' m' c' := by
                rcases hrow.2 with ⟨e, _⟩ | ⟨g, cp, cur, e, _⟩
                · exact ⟨_, _, _, e⟩
                · exact ⟨_, _, _, e⟩
              obtain ⟨A', m', c', rfl⟩ := hv
              obtain ⟨rfl, hsl⟩ := StoSl.of_row hrow (by rw [hml]; unfold maxLen; omega)
              have FIN := hide (And.intro hb (And.intro hsl (And.intro (row_fresh hrow) HE0)))
              clear hb hsl hrow HE0 k1 k2 k3 hml
              go_wp2
              exact bodyPost_ret (v := .tuple #[.slice A' (mixS d t l ss).length c', .int .i64 (mixV d l ar ss), .int .i64 0]) (by simp [results, Try.results22, go_sem]) rfl
                ⟨FIN.out.1, 0, mixV d l ar ss, A', mixS d t l ss, c', rfl, FIN.out.2.1, FIN.out.2.2.1, FIN.out.2.2.2.symm, fun _ => ⟨rfl, rfl⟩, fun h => absurd rfl h⟩
end Go.Proofs.Ytljaibbmceknfaa
