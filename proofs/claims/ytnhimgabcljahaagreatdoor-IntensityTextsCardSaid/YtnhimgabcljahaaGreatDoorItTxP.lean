/- Tables of intensities as texts: what the program and the reference read, and write; that a table is read from its text, and what is read has the text; plain facts. -/
import Derived.Test.YtnhimgabcljahaaGreatDoorLnsP
import Derived.Test.YtnhimgabcljahaaGreatDoorItTab
namespace Go.Proofs.YtnhimgabcljahaaGreatDoor
open Go Go.Lib

/-- the first word of a line -/
def wdA (i : Nat) : List UInt8 := if i = 0 then [100, 117, 114, 97, 116, 105, 111, 110, 115] else [112, 101, 114, 105, 111, 100]
theorem wdA_0 : wdA 0 = [100, 117, 114, 97, 116, 105, 111, 110, 115] := rfl
theorem wdA_s (i : Nat) : wdA (i + 1) = [112, 101, 114, 105, 111, 100] := by simp [wdA]
theorem wdA_no (i : Nat) : (32 : UInt8) ∉ wdA i ∧ (10 : UInt8) ∉ wdA i ∧ (wdA i).length ≤ 9 := by
  unfold wdA
  split <;> decide
/-- the numbers of a line -/
def nsB (wd l : List UInt8) : Bool := match pts 32 l with | a :: b :: r => decide (a = wd) && (b :: r).all rnB | _ => false
def nsL (l : List UInt8) : List Int := (pts 32 l).tail.map fun w => ((valL 0 w : Nat) : Int)
/-- a line without its end -/
def ln (wd : List UInt8) (l : List Int) : List UInt8 := wd ++ l.flatMap fun n => 32 :: itoa n
theorem ln_append (wd : List UInt8) (l : List Int) (n : Int) : ln wd (l ++ [n]) = ln wd l ++ 32 :: itoa n := by simp [ln]
def numR (n : Int) : Prop := 0 ≤ n ∧ n < 1000000000
theorem pts_words : ∀ (ws : List (List UInt8)) (wd : List UInt8), (32 : UInt8) ∉ wd → (∀ w ∈ ws, (32 : UInt8) ∉ w) → pts 32 (wd ++ ws.flatMap (32 :: ·)) = wd :: ws
  | [], wd, h, _ => by simp [pts_no h]
  | w :: r, wd, h, hw => by
    have ih := pts_words r w (hw w (List.mem_cons_self ..)) (fun x hx => hw x (List.mem_cons_of_mem _ hx))
    have e : wd ++ (w :: r).flatMap (32 :: ·) = wd ++ 32 :: (w ++ r.flatMap (32 :: ·)) := by simp
    rw [e, pts_at h, ih]
theorem ln_words (wd : List UInt8) (l : List Int) : ln wd l = wd ++ (l.map itoa).flatMap (32 :: ·) := by
  unfold ln
  congr 1
  induction l with
  | nil => rfl
  | cons n r ih => simp [ih]
theorem pts_ln {wd : List UInt8} (h : (32 : UInt8) ∉ wd) (l : List Int) : pts 32 (ln wd l) = wd :: l.map itoa := by
  rw [ln_words]
  exact pts_words _ _ h (fun w hw => by obtain ⟨n, _, rfl⟩ := List.mem_map.1 hw; exact itoa_no (by decide) n)
theorem ns_ln {wd : List UInt8} (h : (32 : UInt8) ∉ wd) {l : List Int} (h0 : l ≠ []) (hl : ∀ n ∈ l, numR n) : nsB wd (ln wd l) = true ∧ nsL (ln wd l) = l := by
  unfold nsB nsL
  rw [pts_ln h]
  cases l with
  | nil => exact absurd rfl h0
  | cons n r =>
    refine ⟨?_, ?_⟩
    · simp only [List.map_cons, decide_true, Bool.true_and, List.all_cons, List.all_map, Bool.and_eq_true, List.all_eq_true]
      refine ⟨(rn_dec (hl n (List.mem_cons_self ..)).1 (hl n (List.mem_cons_self ..)).2).1, fun x hx => ?_⟩
      have := hl x (List.mem_cons_of_mem _ hx)
      exact (rn_dec this.1 this.2).1
    · simp only [List.tail_cons, List.map_map]
      have e : ∀ x ∈ n :: r, ((fun w => ((valL 0 w : Nat) : Int)) ∘ itoa) x = x := fun x hx => (rn_dec (hl x hx).1 (hl x hx).2).2
      rw [List.map_congr_left e, List.map_id']
theorem jn_words : ∀ (ws : List (List UInt8)) (wd : List UInt8), jn 32 (wd :: ws) = wd ++ ws.flatMap (32 :: ·)
  | [], wd => by simp [jn]
  | w :: r, wd => by rw [jn, jn_words r w]; simp
theorem ln_back {wd p : List UInt8} (h : nsB wd p = true) : ln wd (nsL p) = p ∧ nsL p ≠ [] ∧ ∀ n ∈ nsL p, numR n := by
  unfold nsB at h
  unfold nsL
  have hj := jn_pts 32 p
  generalize pts 32 p = ws at *
  match ws, h with
  | a :: b :: r, h =>
    simp only [Bool.and_eq_true, decide_eq_true_eq, List.all_eq_true] at h
    obtain ⟨rfl, h2⟩ := h
    refine ⟨?_, by simp, fun n hn => ?_⟩
    · rw [ln_words, ← hj, jn_words, List.tail_cons, List.map_map]
      have e : ∀ x ∈ b :: r, (itoa ∘ fun w => ((valL 0 w : Nat) : Int)) x = x := fun x hx => num_back (h2 x hx)
      rw [List.map_congr_left e, List.map_id']
    · rw [List.tail_cons] at hn
      obtain ⟨w, hw, rfl⟩ := List.mem_map.1 hn
      have := rn_val (h2 w hw)
      exact ⟨by omega, by omega⟩
/-- the table of the rows that were read -/
def T0 : Tab := ⟨[], [], []⟩
def tbO : List (List Int) → Tab
  | [] => T0
  | d :: r => ⟨d, r.map (·.getD 0 0), r.map List.tail⟩
def tE (acc : List (List Int)) : Int := if vT (tbO acc) = true then 0 else 1
def tL (acc : List (List Int)) : Tab := if vT (tbO acc) = true then tbO acc else T0
def prT : List (List UInt8) → List (List Int) → Tab × Int × Int
  | [], acc => (tL acc, 0, tE acc)
  | [p], acc => if acc ≠ [] ∧ p = [] then (tL acc, 0, tE acc) else (T0, (acc.length : Int) + 1, 7)
  | p :: q :: r, acc => if nsB (wdA acc.length) p = true then prT (q :: r) (acc ++ [nsL p]) else (T0, (acc.length : Int) + 1, 7)
/-- the same, of lines -/
def prTL : List (List UInt8) → List (List Int) → Tab × Int × Int
  | [], acc => if acc = [] then (T0, 1, 7) else (tL acc, 0, tE acc)
  | x :: r, acc => if endB x = true ∧ nsB (wdA acc.length) (bodyL x) = true then prTL r (acc ++ [nsL (bodyL x)]) else (T0, (acc.length : Int) + 1, 7)
theorem prT_lines : ∀ (ps : List (List UInt8)), ps ≠ [] → (∀ p ∈ ps, (10 : UInt8) ∉ p) → ∀ acc, prT ps acc = prTL (lnsOf ps) acc
  | [], h, _, _ => absurd rfl h
  | [p], _, h, acc => by
    rw [prT, lnsOf]
    by_cases hp : p = []
    · rw [if_pos hp, prTL]
      by_cases ha : acc = []
      · subst ha; simp
      · rw [if_pos ⟨ha, hp⟩, if_neg ha]
    · rw [if_neg hp, if_neg (fun h => hp h.2), prTL, end_no (h p (List.mem_cons_self ..))]
      simp
  | p :: q :: r, _, h, acc => by
    rw [prT, lnsOf, prTL, (end_yes p).1, (end_yes p).2, prT_lines (q :: r) (by simp) (fun x hx => h x (List.mem_cons_of_mem _ hx))]
    simp
theorem prT_lns (s : List UInt8) : prT (pts 10 s) [] = prTL (lns s) [] := prT_lines _ (pts_ne 10 s) (fun p hp => pts_mem p hp) []
/-- the text of rows -/
def txRw : List (List Int) → Nat → List UInt8
  | [], _ => []
  | r :: t, i => ln (wdA i) r ++ 10 :: txRw t (i + 1)
def rowsOf (T : Tab) : List (List Int) := T.ds :: List.zipWith (fun p r => p :: r) T.ps T.rows
def txT (T : Tab) : List UInt8 := txRw (rowsOf T) 0
theorem txRw_append : ∀ (a b : List (List Int)) (i : Nat), txRw (a ++ b) i = txRw a i ++ txRw b (i + a.length)
  | [], b, i => by simp [txRw]
  | r :: a, b, i => by
    rw [List.cons_append, txRw, txRw, txRw_append a b (i + 1)]
    simp [Nat.add_comm, Nat.add_left_comm]
theorem ln_no10 (i : Nat) (l : List Int) : (10 : UInt8) ∉ ln (wdA i) l := by
  unfold ln
  simp only [List.mem_append, not_or, List.mem_flatMap, not_exists, not_and]
  refine ⟨(wdA_no i).2.1, fun n _ h => ?_⟩
  rcases List.mem_cons.1 h with h | h
  · exact absurd h (by decide)
  · exact itoa_no (by decide) n h
theorem prT_txRw : ∀ (rs acc : List (List Int)), acc ++ rs ≠ [] → (∀ r ∈ rs, r ≠ [] ∧ ∀ n ∈ r, numR n) → prT (pts 10 (txRw rs acc.length)) acc = (tL (acc ++ rs), 0, tE (acc ++ rs))
  | [], acc, h, _ => by
    rw [List.append_nil] at h ⊢
    rw [txRw, pts, prT, if_pos ⟨h, rfl⟩]
  | r :: t, acc, _, hr => by
    have h0 := hr r (List.mem_cons_self ..)
    have ih := prT_txRw t (acc ++ [r]) (by simp) (fun x hx => hr x (List.mem_cons_of_mem _ hx))
    obtain ⟨n1, n2⟩ := ns_ln (wdA_no acc.length).1 h0.1 h0.2
    rw [txRw, pts_at (ln_no10 _ _)]
    have el : (acc ++ [r]).length = acc.length + 1 := by simp
    rw [el] at ih
    cases hp : pts 10 (txRw t (acc.length + 1)) with
    | nil => exact absurd hp (pts_ne 10 _)
    | cons q u =>
      rw [hp] at ih
      rw [prT, n1, if_pos rfl, n2, ih, List.append_assoc]
      rfl
theorem tbO_rowsOf {T : Tab} (h : T.rows.length = T.ps.length) : tbO (rowsOf T) = T := by
  obtain ⟨d, p, r⟩ := T
  simp only at h
  have e1 : (List.zipWith (fun p r => p :: r) p r).map (·.getD 0 0) = p := by
    apply List.ext_getElem
    · simp; omega
    · intro i h1 h2; simp
  have e2 : (List.zipWith (fun p r => p :: r) p r).map List.tail = r := by
    apply List.ext_getElem
    · simp; omega
    · intro i h1 h2; simp
  show Tab.mk d ((List.zipWith (fun p r => p :: r) p r).map (·.getD 0 0)) ((List.zipWith (fun p r => p :: r) p r).map List.tail) = _
  rw [e1, e2]
theorem rowsOf_tbO {L : List (List Int)} (h0 : L ≠ []) (h : ∀ r ∈ L, r ≠ []) : rowsOf (tbO L) = L := by
  cases L with
  | nil => exact absurd rfl h0
  | cons d r =>
    unfold rowsOf tbO
    congr 1
    apply List.ext_getElem
    · simp
    · intro i h1 h2
      have hi := h r[i] (List.mem_cons_of_mem _ (List.getElem_mem h2))
      cases hr : r[i] with
      | nil => exact absurd hr hi
      | cons a b => simp [hr]
theorem rows_num {T : Tab} (v : VT T) : ∀ r ∈ rowsOf T, r ≠ [] ∧ (∀ n ∈ r, numR n) ∧ r.length ≤ 101 := by
  intro r hr
  have d1 := v.d1
  have d2 := v.d2
  unfold rowsOf at hr
  rcases List.mem_cons.1 hr with rfl | hr
  · refine ⟨List.length_pos_iff.1 (by omega), fun n hn => ?_, by omega⟩
    obtain ⟨i, hi, rfl⟩ := List.mem_iff_getElem.1 hn
    have := v.dB i hi
    rw [show T.ds.getD i 0 = T.ds[i] by simp [hi]] at this
    exact ⟨by omega, by omega⟩
  · obtain ⟨i, hi, rfl⟩ := List.mem_iff_getElem.1 hr
    have hi2 : i < T.ps.length ∧ i < T.rows.length := by simp at hi; omega
    rw [List.getElem_zipWith]
    have hrw := v.rw i hi2.1
    rw [show T.rows.getD i [] = T.rows[i]'hi2.2 by simp [hi2.2]] at hrw
    refine ⟨by simp, fun n hn => ?_, by rw [List.length_cons]; omega⟩
    rcases List.mem_cons.1 hn with rfl | hn
    · have := v.pB i hi2.1
      rw [show T.ps.getD i 0 = T.ps[i]'hi2.1 by simp [hi2.1]] at this
      exact ⟨by omega, by omega⟩
    · obtain ⟨k, hk, rfl⟩ := List.mem_iff_getElem.1 hn
      have := v.cB i k hi2.1 (by omega)
      rw [show T.cell i k = (T.rows[i]'hi2.2)[k]'hk by simp [Tab.cell, hi2.2, hk]] at this
      exact ⟨by omega, by omega⟩
/-- a table is read from its text -/
theorem readT {T : Tab} (h : vT T = true) : prT (pts 10 (txT T)) [] = (T, 0, 0) := by
  have v := of_vT h
  have e := tbO_rowsOf v.rl
  have := prT_txRw (rowsOf T) [] (by simp [rowsOf]) (fun r hr => ⟨(rows_num v r hr).1, (rows_num v r hr).2.1⟩)
  rw [List.nil_append] at this
  unfold txT
  rw [show (0 : Nat) = ([] : List (List Int)).length from rfl, this]
  unfold tL tE
  rw [e, if_pos h, if_pos h]
/-- what is read has the text -/
theorem prT_back : ∀ (ps : List (List UInt8)) (acc : List (List Int)) (x : Tab), ps ≠ [] → (∀ r ∈ acc, r ≠ []) → prT ps acc = (x, 0, 0) → ∃ L, x = tbO L ∧ vT x = true ∧ L ≠ [] ∧ (∀ r ∈ L, r ≠ []) ∧ txRw L 0 = txRw acc 0 ++ jn 10 ps
  | [], _, _, h, _, _ => absurd rfl h
  | [p], acc, x, _, ha, h => by
    rw [prT] at h
    by_cases hp : acc ≠ [] ∧ p = []
    · rw [if_pos hp] at h
      unfold tL tE at h
      by_cases hv : vT (tbO acc) = true
      · rw [if_pos hv, if_pos hv] at h
        injection h with h _
        subst h
        obtain ⟨h1, rfl⟩ := hp
        exact ⟨acc, rfl, hv, h1, ha, by simp [jn]⟩
      · rw [if_neg hv, if_neg hv] at h
        injection h with _ h
        injection h with _ h
        exact absurd h (by decide)
    · rw [if_neg hp] at h
      injection h with _ h
      injection h with _ h
      exact absurd h (by decide)
  | p :: q :: r, acc, x, _, ha, h => by
    rw [prT] at h
    by_cases hc : nsB (wdA acc.length) p = true
    · rw [if_pos hc] at h
      obtain ⟨b1, b2, _⟩ := ln_back hc
      obtain ⟨L, e1, e2, e3, e4, e5⟩ := prT_back (q :: r) (acc ++ [nsL p]) x (by simp) (fun y hy => by
        rcases List.mem_append.1 hy with hy | hy
        · exact ha y hy
        · rw [List.mem_singleton.1 hy]; exact b2) h
      refine ⟨L, e1, e2, e3, e4, ?_⟩
      rw [e5, txRw_append, jn]
      simp [txRw, b1]
    · rw [if_neg hc] at h
      injection h with _ h
      injection h with _ h
      exact absurd h (by decide)
theorem textT {s : List UInt8} {x : Tab} (h : prT (pts 10 s) [] = (x, 0, 0)) : txT x = s ∧ vT x = true := by
  obtain ⟨L, rfl, e2, e3, e4, e5⟩ := prT_back _ _ _ (pts_ne 10 s) (fun r hr => by simp at hr) h
  refine ⟨?_, e2⟩
  unfold txT
  rw [rowsOf_tbO e3 e4, e5, jn_pts]
  rfl
theorem prT_err : ∀ (ps : List (List UInt8)) (acc : List (List Int)), ((prT ps acc).2.2 = 0 → (prT ps acc).2.1 = 0) ∧ ((prT ps acc).2.2 ≠ 0 → (prT ps acc).1 = T0) ∧ 0 ≤ (prT ps acc).2.1
  | [], acc => by
    rw [prT]
    unfold tL tE
    split <;> simp
  | [p], acc => by
    rw [prT]
    unfold tL tE
    split
    · split <;> simp
    · simp; omega
  | p :: q :: r, acc => by
    have ih := prT_err (q :: r) (acc ++ [nsL p])
    rw [prT]
    split
    · exact ih
    · simp; omega
/-- what Parse returns -/
def prF (s : List UInt8) : Tab × Int × Int := if 262144 < s.length then (T0, 0, 4) else prT (pts 10 s) []
theorem prF_back {s : List UInt8} (h : (prF s).2.2 = 0) : txT (prF s).1 = s ∧ vT (prF s).1 = true := by
  unfold prF at h ⊢
  split at h
  · exact absurd h (by decide)
  · rename_i hn
    rw [if_neg hn]
    have e := (prT_err (pts 10 s) []).1 h
    exact textT (x := (prT (pts 10 s) []).1) (Prod.ext rfl (Prod.ext e h))
theorem prF_line (s : List UInt8) : 0 ≤ (prF s).2.1 := by
  unfold prF
  split
  · simp
  · exact (prT_err _ _).2.2
theorem itoa_len9 {n : Int} (h : numR n) : (itoa n).length ≤ 21 := Lib.itoa_length_le n (by have := h.1; omega) (by have := h.2; omega)
theorem ln_len (wd : List UInt8) : ∀ (l : List Int), (∀ n ∈ l, numR n) → (ln wd l).length ≤ wd.length + 22 * l.length
  | [], _ => by simp [ln]
  | n :: r, h => by
    have ih := ln_len wd r (fun x hx => h x (List.mem_cons_of_mem _ hx))
    have := itoa_len9 (h n (List.mem_cons_self ..))
    unfold ln at ih ⊢
    simp at ih ⊢
    omega
theorem txRw_len : ∀ (rs : List (List Int)) (i : Nat), (∀ r ∈ rs, (∀ n ∈ r, numR n) ∧ r.length ≤ 101) → (txRw rs i).length ≤ 2232 * rs.length
  | [], _, _ => by simp [txRw]
  | r :: t, i, h => by
    have ih := txRw_len t (i + 1) (fun x hx => h x (List.mem_cons_of_mem _ hx))
    have h0 := h r (List.mem_cons_self ..)
    have h1 := ln_len (wdA i) r h0.1
    have h2 := (wdA_no i).2.2
    rw [txRw]
    simp
    omega
theorem rowsOf_len {T : Tab} (v : VT T) : (rowsOf T).length = T.ps.length + 1 := by
  have := v.rl
  unfold rowsOf; simp; omega
theorem txT_len {T : Tab} (v : VT T) : (txT T).length ≤ 46872 := by
  have h := txRw_len (rowsOf T) 0 (fun r hr => (rows_num v r hr).2)
  have := v.p2
  rw [rowsOf_len v] at h
  unfold txT; omega
theorem prF_text {T : Tab} (h : vT T = true) : prF (txT T) = (T, 0, 0) := by
  have := txT_len (of_vT h)
  unfold prF
  rw [if_neg (by omega)]
  exact readT h
end Go.Proofs.YtnhimgabcljahaaGreatDoor
