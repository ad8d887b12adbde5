/- strings.Lines: the iterator hands on the lines of a string, in order. -/
import Derived.Test.YtnhimgabcljahaaGreatDoorWrd
import Derived.Test.YtnhimgabcljahaaGreatDoorRfBox
namespace Go.Proofs.YtnhimgabcljahaaGreatDoor
open Go Go.RowKit Go.Shelf

attribute [local go_sem] Oper.semAt_some

theorem idx_no {c : UInt8} : ∀ {l : List UInt8}, c ∉ l → Lib.indexByte l c = -1
  | [], _ => rfl
  | b :: l, h => by
    have h1 : ¬ b = c := fun e => h (e ▸ List.mem_cons_self ..)
    have h2 := idx_no (fun h' => h (List.mem_cons_of_mem _ h') : c ∉ l)
    simp [Lib.indexByte, h1, h2]
theorem idx_at {c : UInt8} {r : List UInt8} : ∀ {a : List UInt8}, c ∉ a → Lib.indexByte (a ++ c :: r) c = (a.length : Int)
  | [], _ => by simp [Lib.indexByte]
  | b :: l, h => by
    have h1 : ¬ b = c := fun e => h (e ▸ List.mem_cons_self ..)
    have h2 := idx_at (r := r) (fun h' => h (List.mem_cons_of_mem _ h') : c ∉ l)
    have h3 : ¬ (l.length : Int) = -1 := by omega
    simp [Lib.indexByte, h1, h2, h3]
theorem grown_set (w : World) (b i : Nat) (u : Value) : w.grownBy (w.setCell ⟨b, i, none⟩ u) (some b) := by
  refine ⟨rfl, rfl, rfl, by simp [World.setCell], fun k _ hne => ?_⟩
  exact Below.heap_setCell w ⟨b, i, none⟩ u k (fun e => hne (by rw [e]))
theorem grown_drewL (w : World) (row : Option Nat) : w.grownBy w.drew row := ⟨rfl, rfl, rfl, Nat.le_refl _, fun _ _ _ => rfl⟩
/-- how much of the string is left in the box -/
def leftS (Bs : Nat) (w : World) : Nat := match w.cell? ⟨Bs, 0, none⟩ with | some (.string s) => s.size | _ => 0
theorem leftS_of {Bs : Nat} {w : World} {t : TypeId} {l : List UInt8} (h : Blk w Bs t #[strV l]) : leftS Bs w = l.length := by
  unfold leftS
  rw [h.cell]
  simp [ByteArray.size]
set_option maxRecDepth 100000 in
set_option maxHeartbeats 4000000 in
theorem lines1_in (n : Nat) (hn : 1 ≤ n) (l Bs : Nat) (s : List UInt8) (hs : s.length ≤ 9223372036854775807) (J Jx : List (List UInt8) → World → Prop) (kJ : Bears Bs J)
    (hY : ∀ pre x A, pre ++ [x] <+: lns s → J pre A → YieldAt Fence.wide (n - 1) Tryz.prog l #[strV x] A fun e B => (e = .returned (.bool true) ∧ J (pre ++ [x]) B ∧ B.heap[Bs]? = A.heap[Bs]?) ∨ (e = .returned (.bool false) ∧ Jx (pre ++ [x]) B))
    (W : World) (hBs : Blk W Bs 9 #[strV s]) (h0 : J [] W) :
    CallsIn Fence.wide n Tryz.prog 34 #[.func (.yield l) #[] #[], .pointer (some ⟨Bs, 0, none⟩)] W fun e W' => (∃ v, e = .returned v) ∧ (J (lns s) W' ∨ ∃ pre, pre <+: lns s ∧ Jx pre W') := by
  refine callsIn_of_wp Tryz.func34 rfl trivial ?_ rfl
  simp only [Tryz.ntmps34, List.size_toArray, List.length_cons, List.length_nil, Nat.reduceAdd, Nat.reduceSub, Array.replicate_succ, Array.replicate_zero, List.push_toArray, List.append_toArray, List.nil_append, List.cons_append]
  gi_wp2
  gi_loopw [] (fun wr => ∃ (pre : List (List UInt8)) (rest : List UInt8), Hid (Blk wr Bs 9 #[strV rest] ∧ J pre wr ∧ lns s = pre ++ lns rest ∧ rest.length ≤ s.length)) (fun wr => leftS Bs wr)
  case atStart => exact ⟨[], s, hide ⟨hBs, h0, rfl, Nat.le_refl _⟩⟩
  case round =>
    obtain ⟨pre, rest, Y⟩ := hrel
    have c0 := Y.out.1.cell 0
    have f0 := Y.out.1.frozen 0
    have hl := Y.out.2.2.2
    have HN := hide Y.out.2.2.1
    have IB := hide (fun W => Tryz.strings_IndexByte ⟨rest.toArray⟩ 10 W)
    rcases Nat.eq_zero_or_pos rest.length with hz | hz
    · have e : rest = [] := List.eq_nil_of_length_eq_zero hz
      subst e
      have E : lns s = pre := HN.out.trans (List.append_nil _)
      have YJ := Y.out.2.1
      gi_wp2
      go_end0
      exact ⟨⟨_, rfl⟩, .inl YJ⟩
    · by_cases hc : (10 : UInt8) ∈ rest
      · obtain ⟨a, r, rfl, ha⟩ := split_at_first hc
        have e1 : Lib.indexByte (⟨(a ++ 10 :: r).toArray⟩ : ByteArray).data.toList (10 : Int).toNat.toUInt8 = (a.length : Int) := by
          have := idx_at (r := r) ha
          simpa using this
        rw [e1] at IB
        have EL := lns_at (r := r) ha
        have PRE : pre ++ [a ++ [10]] <+: lns s := by rw [Y.out.2.2.1, EL]; exact ⟨lns r, by simp⟩
        have t1 := ba_take (a ++ 10 :: r) (a.length + 1)
        have t2 := ba_drop (a ++ 10 :: r) (a.length + 1)
        have ts : (⟨(a ++ 10 :: r).toArray⟩ : ByteArray).size = a.length + (r.length + 1) := by simp [ByteArray.size]
        rw [show a ++ 10 :: r = (a ++ [10]) ++ r by simp, List.take_left' (by simp)] at t1
        rw [show a ++ 10 :: r = (a ++ [10]) ++ r by simp, List.drop_left' (by simp)] at t2
        rw [show (a ++ [10]) ++ r = a ++ 10 :: r by simp] at t1 t2
        rw [ts] at t2
        have hb1 : a.length + (r.length + 1) ≤ 9223372036854775807 := by simp at hl; omega
        have i1 := IntWalk.i64_in ((a.length : Int) + 1) (by omega)
        have i2 : ((a.length : Int) + 1).toNat = a.length + 1 := by omega
        have i3 : ¬ (a.length : Int) < 0 := by omega
        have YB : Hid (Blk (wr.setCell ⟨Bs, 0, none⟩ (strV r)).drew Bs 9 #[strV r]) := hide (Y.out.1.set_ 0 (strV r)).drew
        have YJ : Hid (J pre (wr.setCell ⟨Bs, 0, none⟩ (strV r)).drew) := hide (kJ _ _ _ (kJ _ _ _ Y.out.2.1 (grown_set wr Bs 0 (strV r))) (grown_drewL _ (some Bs)))
        have EN : Hid (lns s = (pre ++ [a ++ [10]]) ++ lns r) := hide (by rw [Y.out.2.2.1, EL]; simp)
        have HL : Hid (r.length ≤ s.length) := hide (by simp at hl; omega)
        have ME : Hid (leftS Bs wr = a.length + (r.length + 1)) := hide (by rw [leftS_of Y.out.1]; simp)
        have hA : (a ++ 10 :: r).length = a.length + (r.length + 1) := by simp
        clear hl hc EL Y e1 ts hBs h0
        generalize a ++ 10 :: r = A at *
        gi_wp2_with fail
        refine ⟨trivial, (callsIn_wide.2 (IB.out _)).mono ?_⟩
        rintro e w' ⟨rfl, rfl⟩
        gi_wp2
        gi_region
        obtain ⟨fn, tmps, assign, body, hy, hR⟩ := hY pre (a ++ [10]) _ PRE YJ.out
        generalize (World.setCell _ _ _).drew = W4 at *
        gi_wp2
        refine hR.mono ?_
        rintro e W3 (⟨rfl, hJ3, hk3⟩ | ⟨rfl, hJx3⟩)
        · have Z : Hid (Blk W3 Bs 9 #[strV r] ∧ J (pre ++ [a ++ [10]]) W3 ∧ lns s = (pre ++ [a ++ [10]]) ++ lns r ∧ r.length ≤ s.length) := hide ⟨hk3.trans YB.out, hJ3, EN.out, HL.out⟩
          clear hJ3 hk3 hy YB YJ
          gi_wp2
          go_roundw
          case rel => exact ⟨_, _, Z⟩
          case measure => rw [ME.out, leftS_of Z.out.1]; omega
        · gi_wp2
          refine bodyPost_ret (results_none rfl _ _ _) rfl ?_
          exact ⟨⟨_, rfl⟩, .inr ⟨_, PRE, hJx3⟩⟩
      · have e1 : Lib.indexByte (⟨rest.toArray⟩ : ByteArray).data.toList (10 : Int).toNat.toUInt8 = -1 := by
          have := idx_no hc
          simpa using this
        rw [e1] at IB
        have EL := lns_one hc (by intro e; rw [e] at hz; simp at hz)
        have PRE : pre ++ [rest] <+: lns s := by rw [Y.out.2.2.1, EL]; exact ⟨[], by simp⟩
        have YB : Hid (Blk (wr.setCell ⟨Bs, 0, none⟩ (strV [])) Bs 9 #[strV []]) := hide (Y.out.1.set_ 0 (strV []))
        have YJ : Hid (J pre (wr.setCell ⟨Bs, 0, none⟩ (strV []))) := hide (kJ _ _ _ Y.out.2.1 (grown_set wr Bs 0 (strV [])))
        have EN : Hid (lns s = (pre ++ [rest]) ++ lns []) := hide (by rw [Y.out.2.2.1, EL, lns_nil]; simp)
        have ME : Hid (leftS Bs wr = rest.length) := hide (leftS_of Y.out.1)
        have ZR : Hid (∀ W3, W3.heap[Bs]? = (wr.setCell ⟨Bs, 0, none⟩ (strV [])).heap[Bs]? → Blk W3 Bs 9 #[strV []]) := hide fun W3 h => h.trans YB.out
        clear hc EL Y e1 hBs h0 YB
        gi_wp2_with fail
        refine ⟨trivial, (callsIn_wide.2 (IB.out _)).mono ?_⟩
        rintro e w' ⟨rfl, rfl⟩
        obtain ⟨fn, tmps, assign, body, hy, hR⟩ := hY pre rest _ PRE YJ.out
        gi_wp2
        refine hR.mono ?_
        rintro e W3 (⟨rfl, hJ3, hk3⟩ | ⟨rfl, hJx3⟩)
        · have Z : Hid (Blk W3 Bs 9 #[strV []] ∧ J (pre ++ [rest]) W3 ∧ lns s = (pre ++ [rest]) ++ lns [] ∧ ([] : List UInt8).length ≤ s.length) := hide ⟨ZR.out _ hk3, hJ3, EN.out, Nat.zero_le _⟩
          clear hJ3 hk3 hy YJ
          gi_wp2
          go_roundw
          case rel => exact ⟨_, _, Z⟩
          case measure => rw [ME.out, leftS_of Z.out.1]; exact hz
        · gi_wp2
          refine bodyPost_ret (results_none rfl _ _ _) rfl ?_
          exact ⟨⟨_, rfl⟩, .inr ⟨_, PRE, hJx3⟩⟩
/-- strings.Lines boxes the string; the function value holds the box -/
theorem lines_any (s : List UInt8) (w : World) :
    Calls Tryz.prog 20 #[strV s] w fun e w' => e = .returned (.func (.func 34) #[] #[.pointer (some ⟨w.heap.size, 0, none⟩)]) ∧ w' = w.alloc (.cells #[strV s] 9) := by
  go_enter Tryz.func20, Tryz.ntmps20
  go_wp2
  go_ret
  exact ⟨rfl, rfl⟩
/-- the iterator hands each line on, in order -/
theorem lines_gives (n : Nat) (hn : 1 ≤ n) (Bs : Nat) (s : List UInt8) (hs : s.length ≤ 9223372036854775807) (w : World) (hBs : Blk w Bs 9 #[strV s]) :
    GivesL Fence.wide n Tryz.prog 34 #[.pointer (some ⟨Bs, 0, none⟩)] (fun x : List UInt8 => #[strV x]) Bs (lns s) w := fun l J Jx W hW kJ _ hY h0 =>
  lines1_in n hn l Bs s hs J Jx kJ hY W (hBs.below hW hBs.lt) h0
end Go.Proofs.YtnhimgabcljahaaGreatDoor
