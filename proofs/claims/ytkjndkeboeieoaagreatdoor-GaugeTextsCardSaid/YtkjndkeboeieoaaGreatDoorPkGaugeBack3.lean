/- Parts of one proof, joined: Records of rain as texts: what is read, and written; that a record is read from its text, and what is read has the text; plain facts. Rows of a block written cell by cell. Records of rain: missing depths, masses, gaps and chunks, as plain lists; rows of a block written cell by cell. slices.IndexFunc and slices.ContainsFunc at integers, with a function that captures nothing and turns nothing. slices.Equal at integers. The program's instant, Valid, depth and Greatest of records: what each returns; nothing that was there is turned. -/
import Derived.Test.YtkjndkeboeieoaaGreatDoorPkGaugeBack2
import Derived.Deep.QuietTactic
import Derived.BigQuiet
namespace Go.Proofs.YtkjndkeboeieoaaGreatDoor
open Go Go.Lib

/-- the word of a depth, and the depth of a word -/
def wdT (n : Int) : List UInt8 := if n = -1 then [45] else itoa n
def wdB (w : List UInt8) : Bool := decide (w = [45]) || rvB w
def wdV (w : List UInt8) : Int := if w = [45] then -1 else (valL 0 w : Nat)
theorem wd_text {n : Int} (h0 : -1 ≤ n) (h1 : n < 1000000000000000) : wdB (wdT n) = true ∧ wdV (wdT n) = n ∧ (32 : UInt8) ∉ wdT n ∧ (10 : UInt8) ∉ wdT n := by
  unfold wdB wdV wdT
  by_cases h : n = -1
  · rw [if_pos h, h]
    decide
  · have hd := rv_dec (show 0 ≤ n by omega) h1
    have ne : itoa n ≠ [45] := fun e => by
      have := (rv_facts hd.1).1
      rw [e] at this
      have := this 45 (by simp)
      unfold isDg at this
      exact absurd this (by decide)
    rw [if_neg h, if_neg ne, hd.1, hd.2]
    exact ⟨by simp, rfl, itoa_no (by decide) n, itoa_no (by decide) n⟩
theorem wd_back {w : List UInt8} (h : wdB w = true) : wdT (wdV w) = w := by
  unfold wdB at h
  unfold wdT wdV
  by_cases e : w = [45]
  · rw [if_pos e, e]; rfl
  · rw [if_neg e]
    have hr : rvB w = true := by simpa [e] using h
    rw [if_neg (by omega)]
    exact rv_back hr
theorem wdV_bd (w : List UInt8) : -1 ≤ wdV w := by unfold wdV; split <;> omega
theorem wdV_lt {w : List UInt8} (h : wdB w = true) : wdV w < 1000000000000000 := by
  unfold wdV
  unfold wdB at h
  split
  · omega
  · rename_i e
    have hr : rvB w = true := by simpa [e] using h
    have := rv_val hr
    omega
/-- a line of depths -/
def dpB (l : List UInt8) : Bool := decide ((pts 32 l).length ≤ 12) && (pts 32 l).all wdB
def dpL (l : List UInt8) : List Int := (pts 32 l).map wdV
def lnG (r : List Int) : List UInt8 := jn 32 (r.map wdT)
theorem pts_jn {c : UInt8} : ∀ {ws : List (List UInt8)}, ws ≠ [] → (∀ w ∈ ws, c ∉ w) → pts c (jn c ws) = ws
  | [], h, _ => absurd rfl h
  | [p], _, h => by rw [jn, pts_no (h p (List.mem_cons_self ..))]
  | p :: q :: r, _, h => by
    rw [jn, pts_at (h p (List.mem_cons_self ..)), pts_jn (by simp) (fun w hw => h w (List.mem_cons_of_mem _ hw))]
theorem jn_mem {c : UInt8} : ∀ {ws : List (List UInt8)} {x : UInt8}, x ∈ jn c ws → x = c ∨ ∃ w ∈ ws, x ∈ w
  | [], x, h => by simp [jn] at h
  | [p], x, h => .inr ⟨p, List.mem_cons_self .., by simpa [jn] using h⟩
  | p :: q :: r, x, h => by
    rw [jn] at h
    rcases List.mem_append.1 h with h | h
    · exact .inr ⟨p, List.mem_cons_self .., h⟩
    · rcases List.mem_cons.1 h with h | h
      · exact .inl h
      · rcases jn_mem h with h | ⟨w, hw, h⟩
        · exact .inl h
        · exact .inr ⟨w, List.mem_cons_of_mem _ hw, h⟩
/-- depths that can stand in a text -/
def depR (n : Int) : Prop := -1 ≤ n ∧ n < 1000000000000000
theorem dp_text {r : List Int} (h0 : r ≠ []) (h1 : r.length ≤ 12) (hr : ∀ n ∈ r, depR n) : dpB (lnG r) = true ∧ dpL (lnG r) = r ∧ (10 : UInt8) ∉ lnG r := by
  have e : pts 32 (lnG r) = r.map wdT := pts_jn (by simpa using h0) (fun w hw => by
    obtain ⟨n, hn, rfl⟩ := List.mem_map.1 hw
    exact (wd_text (hr n hn).1 (hr n hn).2).2.2.1)
  refine ⟨?_, ?_, fun h => ?_⟩
  · unfold dpB
    rw [e]
    simp only [List.length_map, h1, decide_true, Bool.true_and, List.all_map, List.all_eq_true]
    exact fun n hn => (wd_text (hr n hn).1 (hr n hn).2).1
  · unfold dpL
    rw [e, List.map_map]
    have : ∀ x ∈ r, (wdV ∘ wdT) x = x := fun n hn => (wd_text (hr n hn).1 (hr n hn).2).2.1
    rw [List.map_congr_left this, List.map_id']
  · rcases jn_mem h with h | ⟨w, hw, h⟩
    · exact absurd h (by decide)
    · obtain ⟨n, hn, rfl⟩ := List.mem_map.1 hw
      exact (wd_text (hr n hn).1 (hr n hn).2).2.2.2 h
theorem dp_back {p : List UInt8} (h : dpB p = true) : lnG (dpL p) = p ∧ dpL p ≠ [] ∧ (dpL p).length ≤ 12 ∧ ∀ n ∈ dpL p, depR n := by
  unfold dpB at h
  simp only [Bool.and_eq_true, decide_eq_true_eq, List.all_eq_true] at h
  refine ⟨?_, ?_, by unfold dpL; rw [List.length_map]; exact h.1, fun n hn => ?_⟩
  · unfold lnG dpL
    rw [List.map_map]
    have : ∀ x ∈ pts 32 p, (wdT ∘ wdV) x = x := fun w hw => wd_back (h.2 w hw)
    rw [List.map_congr_left this, List.map_id', jn_pts]
  · unfold dpL
    simpa using pts_ne 32 p
  · obtain ⟨w, hw, rfl⟩ := List.mem_map.1 hn
    exact ⟨wdV_bd w, wdV_lt (h.2 w hw)⟩
/-- the first line -/
def hdO (l : List UInt8) : Option (Int × Int) :=
  match pts 32 l with
  | [a, b, c, d, e] => if a = [114, 97, 105, 110] ∧ d = [115, 116, 101, 112] ∧ (ckV (b ++ 32 :: c)).2 = 0 ∧ rvB e = true then some ((ckV (b ++ 32 :: c)).1, ((valL 0 e : Nat) : Int)) else none
  | _ => none
def hdT (y m d s : Nat) (st : Int) : List UInt8 := [114, 97, 105, 110, 32] ++ (ckT y m d s ++ ([32, 115, 116, 101, 112, 32] ++ itoa st))
theorem isDg_no {c x : UInt8} (h : isDg x) (hc : c.toNat < 48) : c ≠ x := fun e => by subst e; unfold isDg at h; omega
theorem hdT_words {y m d s : Nat} {st : Int} (h : VD y m d) (hs : s < 86400) : pts 32 (hdT y m d s st) = [[114, 97, 105, 110], dg4 y ++ 45 :: (dg2 m ++ 45 :: dg2 d), hmT s, [115, 116, 101, 112], itoa st] ∧ (10 : UInt8) ∉ hdT y m d s st := by
  obtain ⟨⟨h1, h2⟩, ⟨h3, h4⟩, h5, h6⟩ := h
  have hb := md_bd y m h3 h4
  have n4 : ∀ c : UInt8, c.toNat < 48 → c ∉ dg4 y := fun c hc hm => by
    unfold dg4 at hm
    simp only [List.mem_cons, List.not_mem_nil, or_false] at hm
    rcases hm with e | e | e | e <;> exact isDg_no (dg_at (by omega)) hc e
  have n2 : ∀ (c : UInt8) (n : Nat), c.toNat < 48 → n < 100 → c ∉ dg2 n := fun c n hc hn hm => by
    unfold dg2 at hm
    simp only [List.mem_cons, List.not_mem_nil, or_false] at hm
    rcases hm with e | e <;> exact isDg_no (dg_at (by omega)) hc e
  have nD : ∀ c : UInt8, c.toNat < 45 → c ∉ dg4 y ++ 45 :: (dg2 m ++ 45 :: dg2 d) := fun c hc hm => by
    have c45 : c ≠ 45 := fun e => by subst e; exact absurd hc (by decide)
    simp only [List.mem_append, List.mem_cons] at hm
    rcases hm with e | e | e | e | e
    · exact n4 c (by omega) e
    · exact c45 e
    · exact n2 c m (by omega) (by omega) e
    · exact c45 e
    · exact n2 c d (by omega) (by omega) e
  have nH : ∀ c : UInt8, c.toNat < 45 → c ∉ hmT s := fun c hc hm => by
    have c58 : c ≠ 58 := fun e => by subst e; exact absurd hc (by decide)
    unfold hmT at hm
    simp only [List.mem_append, List.mem_cons] at hm
    rcases hm with e | e | e | e | e
    · exact n2 c _ (by omega) (by omega) e
    · exact c58 e
    · exact n2 c _ (by omega) (by omega) e
    · exact c58 e
    · exact n2 c _ (by omega) (by omega) e
  have e : hdT y m d s st = [114, 97, 105, 110] ++ 32 :: ((dg4 y ++ 45 :: (dg2 m ++ 45 :: dg2 d)) ++ 32 :: (hmT s ++ 32 :: ([115, 116, 101, 112] ++ 32 :: itoa st))) := by
    unfold hdT ckT
    simp
  refine ⟨?_, fun hm => ?_⟩
  · rw [e, pts_at (by decide), pts_at (nD 32 (by decide)), pts_at (nH 32 (by decide)), pts_at (by decide), pts_no (itoa_no (by decide) st)]
  · rw [e] at hm
    rcases List.mem_append.1 hm with hm | hm
    · exact absurd hm (by decide)
    · rcases List.mem_cons.1 hm with hm | hm
      · exact absurd hm (by decide)
      · rcases List.mem_append.1 hm with hm | hm
        · exact nD 10 (by decide) hm
        · rcases List.mem_cons.1 hm with hm | hm
          · exact absurd hm (by decide)
          · rcases List.mem_append.1 hm with hm | hm
            · exact nH 10 (by decide) hm
            · rcases List.mem_cons.1 hm with hm | hm
              · exact absurd hm (by decide)
              · rcases List.mem_append.1 hm with hm | hm
                · exact absurd hm (by decide)
                · rcases List.mem_cons.1 hm with hm | hm
                  · exact absurd hm (by decide)
                  · exact itoa_no (by decide) st hm
/-- the first line of a record with a date is read -/
theorem hd_text {t st : Int} {y m d : Nat} (h : IsD (t / 86400) y m d) (h0 : -68719476736 ≤ t) (h1 : t ≤ 68719476736) (s0 : 0 ≤ st) (s1 : st < 1000000000000000) : hdO (hdT y m d (t % 86400).toNat st) = some (t, st) := by
  have k := ckV_text h h0 h1
  have r := rv_dec s0 s1
  unfold hdO
  rw [(hdT_words h.1 (by omega)).1]
  dsimp only
  have e : (dg4 y ++ 45 :: (dg2 m ++ 45 :: dg2 d)) ++ 32 :: hmT (t % 86400).toNat = ckT y m d (t % 86400).toNat := by unfold ckT; simp
  rw [e, k, if_pos ⟨rfl, rfl, rfl, r.1⟩, r.2]
/-- what is read has the text -/
theorem hd_back {l : List UInt8} {t st : Int} (h : hdO l = some (t, st)) : (-68719476736 ≤ t ∧ t ≤ 68719476736) ∧ 0 ≤ st ∧ st < 1000000000000000 ∧ ∃ y m d, IsD (t / 86400) y m d ∧ l = hdT y m d (t % 86400).toNat st := by
  have hj := jn_pts 32 l
  unfold hdO at h
  split at h
  · rename_i a b c d e hp
    rw [hp] at hj
    split at h
    · rename_i hc
      obtain ⟨rfl, rfl, k1, k2⟩ := hc
      injection h with h
      injection h with e1 e2
      have kv : ckV (b ++ 32 :: c) = (t, 0) := Prod.ext e1 k1
      obtain ⟨hr, y, m, dd, hD, hl⟩ := ckV_back kv
      have hv := rv_val k2
      refine ⟨hr, by omega, by omega, y, m, dd, hD, ?_⟩
      have hb := rv_back k2
      rw [← e2, ← hj]
      unfold hdT
      rw [← hl, hb]
      simp [jn]
    · cases h
  · cases h
theorem jn_wds : ∀ (ws : List (List UInt8)) (wd : List UInt8), jn 32 (wd :: ws) = wd ++ ws.flatMap (32 :: ·)
  | [], wd => by simp [jn]
  | w :: r, wd => by rw [jn, jn_wds r w]; simp
/-- the rows of a text -/
def rowsK : Nat → List Int → List (List Int) | 0, _ => [] | k + 1, l => if l = [] then [] else l.take 12 :: rowsK k (l.drop 12)
def rwT (R : List (List Int)) : List UInt8 := R.flatMap fun r => lnG r ++ [10]
theorem rowsK_more : ∀ (k j : Nat) (l : List Int), l.length ≤ k → l.length ≤ j → rowsK k l = rowsK j l
  | 0, 0, _, _, _ => rfl
  | 0, j + 1, l, h, _ => by
    obtain rfl : l = [] := List.eq_nil_of_length_eq_zero (by omega)
    rfl
  | k + 1, 0, l, _, h => by
    obtain rfl : l = [] := List.eq_nil_of_length_eq_zero (by omega)
    rfl
  | k + 1, j + 1, l, h1, h2 => by
    rw [rowsK, rowsK]
    by_cases e : l = []
    · rw [if_pos e, if_pos e]
    · rw [if_neg e, if_neg e]
      have := List.length_pos_iff.2 e
      rw [rowsK_more k j (l.drop 12) (by simp; omega) (by simp; omega)]
/-- the text of a record behind its first line: a byte ahead of each depth, and the end -/
def sepG (i : Nat) : UInt8 := if i % 12 = 0 then 10 else 32
def tkL : List Int → Nat → List UInt8 | [], _ => [10] | x :: r, i => sepG i :: (wdT x ++ tkL r (i + 1))
/-- the text of the first depths, without the last end -/
def tkG (h : List UInt8) (l : List Int) : Nat → List UInt8 | 0 => h | i + 1 => tkG h l i ++ sepG i :: wdT (l.getD i 0)
theorem tkG_rest (h : List UInt8) (l : List Int) : ∀ i, i ≤ l.length → tkG h l i ++ tkL (l.drop i) i = h ++ tkL l 0
  | 0, _ => by simp [tkG]
  | i + 1, hi => by
    have ih := tkG_rest h l i (by omega)
    have e : l.drop i = l.getD i 0 :: l.drop (i + 1) := by
      rw [List.drop_eq_getElem_cons (show i < l.length by omega)]
      simp [show i < l.length by omega]
    rw [e, tkL] at ih
    rw [tkG, ← ih]
    simp
theorem tkG_end (h : List UInt8) (l : List Int) : tkG h l l.length ++ [10] = h ++ tkL l 0 := by
  have := tkG_rest h l l.length (Nat.le_refl _)
  rw [List.drop_length, tkL] at this
  exact this
theorem tkL_row : ∀ (c : Nat) (l : List Int) (i : Nat), c ≤ 11 → (i + c) % 12 = 0 → tkL l i = (l.take c).flatMap (fun n => 32 :: wdT n) ++ tkL (l.drop c) (i + c)
  | 0, l, i, _, _ => by simp
  | c + 1, [], i, _, _ => by simp [tkL]
  | c + 1, x :: r, i, h1, h2 => by
    have e : sepG i = 32 := by unfold sepG; rw [if_neg (by omega)]
    have ih := tkL_row c r (i + 1) (by omega) (by omega)
    rw [tkL, e, ih, List.take_succ_cons, List.drop_succ_cons, List.flatMap_cons, show i + 1 + c = i + (c + 1) by omega]
    simp
theorem tkL_rows : ∀ (k : Nat) (l : List Int) (i : Nat), l.length ≤ k → i % 12 = 0 → tkL l i = 10 :: rwT (rowsK k l)
  | 0, l, i, h, _ => by
    obtain rfl : l = [] := List.eq_nil_of_length_eq_zero (by omega)
    rfl
  | k + 1, [], i, _, _ => rfl
  | k + 1, x :: r, i, h, hi => by
    have e : sepG i = 10 := by unfold sepG; rw [if_pos hi]
    have r1 := tkL_row 11 r (i + 1) (by omega) (by omega)
    have ih := tkL_rows k (r.drop 11) (i + 1 + 11) (by simp at h ⊢; omega) (by omega)
    rw [tkL, e, r1, ih, rowsK, if_neg (by simp), List.take_succ_cons, List.drop_succ_cons]
    unfold rwT lnG
    rw [List.flatMap_cons, List.map_cons, jn_wds, List.flatMap_map]
    simp
/-- the text of a record with its first line -/
def txG (h : List UInt8) (l : List Int) : List UInt8 := h ++ tkL l 0
theorem txG_rows (h : List UInt8) (l : List Int) : txG h l = h ++ 10 :: rwT (rowsK l.length l) := by
  unfold txG
  rw [tkL_rows l.length l 0 (Nat.le_refl _) rfl]
theorem lnsOf_flat : ∀ (ps : List (List UInt8)), (lnsOf ps).flatten = jn 10 ps
  | [] => rfl
  | [p] => by
    rw [lnsOf, jn]
    split
    · rename_i h; rw [h]; rfl
    · simp
  | p :: q :: r => by
    rw [lnsOf, jn, List.flatten_cons, lnsOf_flat (q :: r)]
    simp
theorem lns_flat (s : List UInt8) : (lns s).flatten = s := by
  unfold lns
  rw [lnsOf_flat, jn_pts]
theorem end_body {x : List UInt8} (h : endB x = true) : x = bodyL x ++ [10] := by
  have h1 := h
  unfold endB hasSuffix at h1
  rw [List.isSuffixOf_iff_suffix] at h1
  obtain ⟨t, rfl⟩ := h1
  rw [(end_yes t).2]
/-- what a line makes of a record -/
def stG (n : Nat) (a : Ser) (x : List UInt8) (last : Bool) : Option Ser :=
  if endB x = true then
    (if n = 0 then (match hdO (bodyL x) with | some p => some ⟨p.1, p.2, []⟩ | none => none)
     else if dpB (bodyL x) = true ∧ ((dpL (bodyL x)).length = 12 ∨ last = true) then some ⟨a.fr, a.st, a.ds ++ dpL (bodyL x)⟩ else none)
  else none
abbrev S0 : Ser := ⟨0, 0, []⟩
def prGL : List (List UInt8) → Nat → Ser → Ser × Int × Int
  | [], n, a => if n = 0 then (S0, 1, 7) else if vS a = true then (a, 0, 0) else (S0, 0, 1)
  | x :: r, n, a => match stG n a x r.isEmpty with | some a' => prGL r (n + 1) a' | none => (S0, (n : Int) + 1, 7)
def prG (s : List UInt8) : Ser × Int × Int := if 262144 < s.length then (S0, 0, 4) else prGL (lns s) 0 S0
theorem lns_rows : ∀ (R : List (List Int)), (∀ r ∈ R, r ≠ [] ∧ r.length ≤ 12 ∧ ∀ n ∈ r, depR n) → lns (rwT R) = R.map fun r => lnG r ++ [10]
  | [], _ => rfl
  | r :: t, h => by
    have ih := lns_rows t (fun x hx => h x (List.mem_cons_of_mem _ hx))
    have h0 := h r (List.mem_cons_self ..)
    have e : rwT (r :: t) = lnG r ++ 10 :: rwT t := by unfold rwT; simp
    rw [e, lns_at (dp_text h0.1 h0.2.1 h0.2.2).2.2, ih, List.map_cons]
theorem rowsK_ok : ∀ (k : Nat) (l : List Int), (∀ n ∈ l, depR n) → ∀ r ∈ rowsK k l, r ≠ [] ∧ r.length ≤ 12 ∧ ∀ n ∈ r, depR n
  | 0, _, _, r, h => by simp [rowsK] at h
  | k + 1, l, hl, r, h => by
    rw [rowsK] at h
    split at h
    · simp at h
    · rename_i e
      rcases List.mem_cons.1 h with rfl | h
      · refine ⟨fun e' => ?_, by simp; omega, fun n hn => hl n (List.mem_of_mem_take hn)⟩
        have := List.length_pos_iff.2 e
        have := congrArg List.length e'
        rw [List.length_take, List.length_nil] at this
        omega
      · exact rowsK_ok k (l.drop 12) (fun n hn => hl n (List.mem_of_mem_drop hn)) r h
theorem prGL_rows : ∀ (k : Nat) (l : List Int) (n : Nat) (f s : Int) (acc : List Int), l.length ≤ k → (∀ n ∈ l, depR n) →
    prGL ((rowsK k l).map fun r => lnG r ++ [10]) (n + 1) ⟨f, s, acc⟩ = if vS ⟨f, s, acc ++ l⟩ = true then (⟨f, s, acc ++ l⟩, 0, 0) else (S0, 0, 1)
  | 0, l, n, f, s, acc, h, _ => by
    obtain rfl : l = [] := List.eq_nil_of_length_eq_zero (by omega)
    rw [List.append_nil, rowsK, List.map_nil, prGL, if_neg (by omega)]
  | k + 1, l, n, f, s, acc, h, hl => by
    rw [rowsK]
    by_cases e : l = []
    · subst e
      rw [if_pos rfl, List.append_nil, List.map_nil, prGL, if_neg (by omega)]
    · rw [if_neg e, List.map_cons, prGL]
      have hp := List.length_pos_iff.2 e
      have ih := prGL_rows k (l.drop 12) (n + 1) f s (acc ++ l.take 12) (by simp; omega) (fun n hn => hl n (List.mem_of_mem_drop hn))
      obtain ⟨d1, d2, d3⟩ := dp_text (r := l.take 12) (fun e' => by have := congrArg List.length e'; rw [List.length_take, List.length_nil] at this; omega) (by rw [List.length_take]; omega) (fun n hn => hl n (List.mem_of_mem_take hn))
      have st : stG (n + 1) ⟨f, s, acc⟩ (lnG (l.take 12) ++ [10]) ((rowsK k (l.drop 12)).map fun r => lnG r ++ [10]).isEmpty = some ⟨f, s, acc ++ l.take 12⟩ := by
        unfold stG
        rw [(end_yes _).1, if_pos rfl, if_neg (by omega), (end_yes _).2, d1, d2, if_pos]
        refine ⟨rfl, ?_⟩
        rcases Nat.lt_or_ge l.length 12 with h12 | h12
        · right
          have : l.drop 12 = [] := List.drop_eq_nil_iff.2 (by omega)
          rw [this]
          cases k <;> simp [rowsK]
        · left
          simp; omega
      rw [st]
      dsimp only
      rw [ih, List.append_assoc, List.take_append_drop]
theorem vS_dep {s : Ser} (h : vS s = true) : ∀ n ∈ s.ds, depR n := fun n hn => by
  obtain ⟨i, hi, rfl⟩ := List.mem_iff_getElem.1 hn
  have := (vS_iff.1 h).ok i hi
  rw [show s.ds.getD i 0 = s.ds[i] by simp [hi]] at this
  exact ⟨this.1, by omega⟩
theorem wdT_len {n : Int} (h0 : -1 ≤ n) (h1 : n < 1000000000000000) : (wdT n).length ≤ 15 := by
  unfold wdT
  split
  · simp
  · exact (rv_facts (rv_dec (by omega) h1).1).2.2.1
theorem tkL_len : ∀ (l : List Int) (i : Nat), (∀ n ∈ l, depR n) → (tkL l i).length ≤ 16 * l.length + 1
  | [], _, _ => by simp [tkL]
  | x :: r, i, h => by
    have ih := tkL_len r (i + 1) (fun n hn => h n (List.mem_cons_of_mem _ hn))
    have hx := h x (List.mem_cons_self ..)
    have := wdT_len hx.1 hx.2
    rw [tkL]
    simp
    omega
theorem hdT_len {y m d s : Nat} {st : Int} (s0 : 0 ≤ st) (s1 : st < 1000000000000000) : (hdT y m d s st).length ≤ 45 := by
  have := (rv_facts (rv_dec s0 s1).1).2.2.1
  unfold hdT
  simp [ckT_len]
  omega
/-- a record with a date is read from its text -/
theorem readG {s : Ser} {y m d : Nat} (h : vS s = true) (hd : IsD (s.fr / 86400) y m d) (hl : s.ds.length ≤ 10000) : prG (txG (hdT y m d (s.fr % 86400).toNat s.st) s.ds) = (s, 0, 0) := by
  have v := vS_iff.1 h
  have dep := vS_dep h
  have s1 : 0 ≤ s.st := by have := v.st.1; omega
  have s2 : s.st < 1000000000000000 := by have := v.st.2; omega
  have len := tkL_len s.ds 0 dep
  have hlen := hdT_len (y := y) (m := m) (d := d) (s := (s.fr % 86400).toNat) s1 s2
  have hw := hdT_words (st := s.st) hd.1 (show (s.fr % 86400).toNat < 86400 by omega)
  have ht := hd_text hd v.fr.1 v.fr.2 s1 s2
  unfold prG
  rw [if_neg (by unfold txG; rw [List.length_append]; omega), txG_rows, lns_at hw.2, lns_rows _ (rowsK_ok _ _ dep), prGL]
  have st : ∀ b, stG 0 S0 (hdT y m d (s.fr % 86400).toNat s.st ++ [10]) b = some ⟨s.fr, s.st, []⟩ := fun b => by
    unfold stG
    rw [(end_yes _).1, if_pos rfl, if_pos rfl, (end_yes _).2, ht]
  rw [st]
  dsimp only
  rw [prGL_rows _ _ _ _ _ _ (Nat.le_refl _) dep, List.nil_append, if_pos h]
theorem prGL_back : ∀ (L : List (List UInt8)) (n : Nat) (a x : Ser), n ≠ 0 → prGL L n a = (x, 0, 0) → vS x = true ∧ x.fr = a.fr ∧ x.st = a.st ∧ ∃ l, x.ds = a.ds ++ l ∧ L.flatten = rwT (rowsK l.length l)
  | [], n, a, x, hn, h => by
    rw [prGL, if_neg hn] at h
    split at h
    · rename_i hv
      injection h with h _
      subst h
      exact ⟨hv, rfl, rfl, [], by simp, rfl⟩
    · injection h with _ h
      injection h with _ h
      exact absurd h (by decide)
  | p :: r, n, a, x, hn, h => by
    rw [prGL] at h
    split at h
    · rename_i a' hs
      unfold stG at hs
      split at hs
      · rename_i he
        try rw [if_neg hn] at hs
        split at hs
        · rename_i hc
          injection hs with hs
          subst hs
          obtain ⟨h1, h2, h3, l, h4, h5⟩ := prGL_back r (n + 1) _ x (by omega) h
          obtain ⟨b1, b2, b3, _⟩ := dp_back hc.1
          have b0 := List.length_pos_iff.2 b2
          refine ⟨h1, h2, h3, dpL (bodyL p) ++ l, by rw [h4]; simp, ?_⟩
          have e12 : (dpL (bodyL p)).length = 12 ∨ l = [] := by
            rcases hc.2 with e | e
            · exact .inl e
            · right
              obtain rfl : r = [] := by simpa using e
              rw [prGL, if_neg (by omega)] at h
              split at h
              · injection h with h _
                rw [← h] at h4
                simpa using h4
              · injection h with _ h
                injection h with _ h
                exact absurd h (by decide)
          rw [List.flatten_cons, h5]
          have eb := end_body he
          have el : (dpL (bodyL p) ++ l).length = ((dpL (bodyL p)).length - 1 + l.length) + 1 := by rw [List.length_append]; omega
          rw [el, rowsK, if_neg (by simp [b2])]
          rcases e12 with e12 | e12
          · have t1 : (dpL (bodyL p) ++ l).take 12 = dpL (bodyL p) := by rw [← e12, List.take_left]
            have t2 : (dpL (bodyL p) ++ l).drop 12 = l := by rw [← e12, List.drop_left]
            rw [t1, t2, rowsK_more ((dpL (bodyL p)).length - 1 + l.length) l.length l (by omega) (Nat.le_refl _)]
            conv => lhs; rw [eb, ← b1]
            unfold rwT
            simp
          · subst e12
            have t1 : (dpL (bodyL p) ++ ([] : List Int)).take 12 = dpL (bodyL p) := by rw [List.append_nil, List.take_of_length_le b3]
            have t2 : (dpL (bodyL p) ++ ([] : List Int)).drop 12 = [] := by rw [List.append_nil]; exact List.drop_eq_nil_iff.2 b3
            rw [t1, t2, rowsK_more ((dpL (bodyL p)).length - 1 + ([] : List Int).length) 0 [] (by simp) (by simp)]
            conv => lhs; rw [eb, ← b1]
            unfold rwT
            simp [rowsK]
        · cases hs
      · cases hs
    · injection h with _ h
      injection h with _ h
      exact absurd h (by decide)
/-- what is read has the text -/
theorem textG {s : List UInt8} {x : Ser} (h : prG s = (x, 0, 0)) : vS x = true ∧ ∃ y m d, IsD (x.fr / 86400) y m d ∧ txG (hdT y m d (x.fr % 86400).toNat x.st) x.ds = s := by
  unfold prG at h
  split at h
  · injection h with _ h
    injection h with _ h
    exact absurd h (by decide)
  · have fl := lns_flat s
    cases hL : lns s with
    | nil =>
      rw [hL, prGL, if_pos rfl] at h
      injection h with _ h
      injection h with _ h
      exact absurd h (by decide)
    | cons p r =>
      rw [hL, prGL] at h
      rw [hL] at fl
      split at h
      · rename_i a' hs
        unfold stG at hs
        split at hs
        · rename_i he
          rw [if_pos rfl] at hs
          split at hs
          · rename_i q hq
            injection hs with hs
            subst hs
            obtain ⟨h1, h2, h3, l, h4, h5⟩ := prGL_back r 1 _ x (by omega) h
            dsimp only at h2 h3 h4
            rw [List.nil_append] at h4
            obtain ⟨f, st⟩ := q
            dsimp only at h2 h3
            obtain ⟨_, _, _, y, m, d, hD, hl⟩ := hd_back hq
            subst h2 h3
            refine ⟨h1, y, m, d, hD, ?_⟩
            rw [txG_rows, ← hl, h4, ← h5, ← fl, List.flatten_cons]
            conv => rhs; rw [end_body he]
            simp
          · cases hs
        · cases hs
      · injection h with _ h
        injection h with _ h
        exact absurd h (by decide)
theorem prGL_err : ∀ (L : List (List UInt8)) (n : Nat) (a : Ser), ((prGL L n a).2.2 = 0 → (prGL L n a).2.1 = 0) ∧ ((prGL L n a).2.2 ≠ 0 → (prGL L n a).1 = S0) ∧ 0 ≤ (prGL L n a).2.1
  | [], n, a => by
    rw [prGL]
    split
    · simp
    · split <;> simp
  | x :: r, n, a => by
    rw [prGL]
    split
    · exact prGL_err r (n + 1) _
    · simp; omega
theorem prG_err (s : List UInt8) : ((prG s).2.2 = 0 → (prG s).2.1 = 0) ∧ ((prG s).2.2 ≠ 0 → (prG s).1 = S0) ∧ 0 ≤ (prG s).2.1 := by
  unfold prG
  split
  · simp
  · exact prGL_err _ _ _
end Go.Proofs.YtkjndkeboeieoaaGreatDoor

namespace Go.Proofs.YtkjndkeboeieoaaGreatDoor
open Go.RowKit

/-- a row of cells, place by place -/
def mkRow (n : Nat) (f : Nat → Value) : Array Value := ((List.range n).map f).toArray
theorem mkRow_size (n : Nat) (f : Nat → Value) : (mkRow n f).size = n := by simp [mkRow]
theorem mkRow_at (n : Nat) (f : Nat → Value) {i : Nat} (h : i < n) : (mkRow n f)[i]? = some (f i) := by simp [mkRow, h]
theorem mkRow_set (n : Nat) (f : Nat → Value) (i : Nat) (v : Value) : (mkRow n f).setIfInBounds i v = mkRow n (fun j => if j = i then v else f j) := by
  apply Array.ext
  · simp [mkRow]
  · intro j h1 h2
    simp only [mkRow, Array.size_setIfInBounds, List.size_toArray, List.length_map, List.length_range] at h1
    by_cases e : j = i
    · subst e; simp [mkRow]
    · rw [Array.getElem_setIfInBounds_ne (hj := by simpa [mkRow] using h1) (h := fun h => e h.symm)]
      simp [mkRow, e]
theorem mkRow_congr {n : Nat} {f g : Nat → Value} (h : ∀ i, i < n → f i = g i) : mkRow n f = mkRow n g := by
  unfold mkRow
  congr 1
  exact List.map_congr_left (fun i hi => h i (List.mem_range.1 hi))
theorem mkRow_made (n : Nat) (z : Value) : madeCells #[z] n = mkRow n (fun _ => z) := by
  apply Array.ext'
  rw [toList_madeCells_one]
  simp [mkRow, List.map_const']
/-- a block of the call's own that holds integers, read as a slice -/
theorem IntSl.of_blk {w : World} {g n : Nat} {t : TypeId} {f : Nat → Int} (h : Blk w g t (mkRow n (fun i => .int .i64 (f i)))) (hn : n ≤ 9223372036854775807) (hr : ∀ i, i < n → -9223372036854775808 ≤ f i ∧ f i ≤ 9223372036854775807) : IntSl w (some ⟨g, 0, none⟩) ((List.range n).map f) := by
  refine ⟨⟨by simpa using hn, fun i hi => ?_⟩, fun _ => ⟨g, 0, rfl, h.lt, fun i hi => ?_⟩⟩
  · simp only [List.length_map, List.length_range] at hi
    simpa using hr i hi
  · simp only [List.length_map, List.length_range] at hi
    rw [Nat.zero_add, h.cell, mkRow_at n _ hi]
    simp
end Go.Proofs.YtkjndkeboeieoaaGreatDoor

namespace Go.Proofs.YtkjndkeboeieoaaGreatDoor
open Go.RowKit

/-- how many of the first depths are missing -/
def ms (l : List Int) : Nat → Int | 0 => 0 | i + 1 => ms l i + if l.getD i 0 = -1 then 1 else 0
theorem ms_bd (l : List Int) : ∀ i, 0 ≤ ms l i ∧ ms l i ≤ (i : Int)
  | 0 => by simp [ms]
  | i + 1 => by
    have := ms_bd l i
    show 0 ≤ ms l i + (if l.getD i 0 = -1 then 1 else 0) ∧ ms l i + (if l.getD i 0 = -1 then 1 else 0) ≤ _
    split <;> omega
/-- the sums of the first depths -/
def massL (l : List Int) : List Int := (List.range l.length).map fun i => ps l (i + 1)
theorem massL_length (l : List Int) : (massL l).length = l.length := by simp [massL]
theorem massL_at (l : List Int) {i : Nat} (h : i < l.length) : (massL l).getD i 0 = ps l (i + 1) := by simp [massL, h]
/-- the last run's end is set -/
def setHi (L : List (Int × Int)) (x : Int) : List (Int × Int) := L.dropLast ++ [((L.getLastD (0, 0)).1, x)]
/-- the runs of missing depths among the first ones -/
def gpL (l : List Int) : Nat → List (Int × Int)
  | 0 => []
  | i + 1 => if l.getD i 0 = -1 then (if 0 < i ∧ l.getD (i - 1) 0 = -1 then setHi (gpL l i) i else gpL l i ++ [((i : Int), (i : Int))]) else gpL l i
theorem setHi_length {L : List (Int × Int)} (h : L ≠ []) (x : Int) : (setHi L x).length = L.length := by
  have := List.length_pos_iff.2 h
  simp [setHi]; omega
theorem setHi_last (L : List (Int × Int)) (x : Int) : (setHi L x).getLastD (0, 0) = ((L.getLastD (0, 0)).1, x) := by simp [setHi]
/-- the last run ends at the last depth exactly if this one is missing -/
theorem gpL_last (l : List Int) : ∀ i, (0 < i → l.getD (i - 1) 0 = -1 → gpL l i ≠ [] ∧ ((gpL l i).getLastD (0, 0)).2 = (i : Int) - 1) ∧ (gpL l i ≠ [] → ((gpL l i).getLastD (0, 0)).2 = (i : Int) - 1 → 0 < i ∧ l.getD (i - 1) 0 = -1) ∧ ((gpL l i).length ≤ i ∧ (gpL l i ≠ [] → ((gpL l i).getLastD (0, 0)).2 ≤ (i : Int) - 1))
  | 0 => ⟨fun h => by omega, fun h => absurd rfl h, by simp [gpL], fun h => absurd rfl h⟩
  | i + 1 => by
    obtain ⟨h1, h2, h3, h4⟩ := gpL_last l i
    rw [show i + 1 - 1 = i by omega]
    have e : gpL l (i + 1) = if l.getD i 0 = -1 then (if 0 < i ∧ l.getD (i - 1) 0 = -1 then setHi (gpL l i) i else gpL l i ++ [((i : Int), (i : Int))]) else gpL l i := rfl
    by_cases c : l.getD i 0 = -1
    · rw [if_pos c] at e
      by_cases d : 0 < i ∧ l.getD (i - 1) 0 = -1
      · rw [if_pos d] at e
        obtain ⟨n1, n2⟩ := h1 d.1 d.2
        have len := setHi_length n1 (i : Int)
        have la := setHi_last (gpL l i) (i : Int)
        have pos := List.length_pos_iff.2 n1
        rw [e, la]
        refine ⟨fun _ _ => ⟨fun h => ?_, by simp⟩, fun _ _ => ⟨by omega, c⟩, by omega, fun _ => by simp⟩
        rw [h] at len; simp at len; omega
      · rw [if_neg d] at e
        rw [e]
        refine ⟨fun _ _ => ⟨by simp, by simp⟩, fun _ _ => ⟨by omega, c⟩, by simp; omega, fun _ => by simp⟩
    · rw [if_neg c] at e
      rw [e]
      refine ⟨fun _ h => absurd h c, fun hn h => ?_, by omega, fun hn => ?_⟩
      · have := h4 hn; omega
      · have := h4 hn; omega
/-- the cells of spans -/
def flatP : List (Int × Int) → List Value
  | [] => []
  | s :: l => .int .i64 s.1 :: .int .i64 s.2 :: flatP l
theorem flatP_length : ∀ l : List (Int × Int), (flatP l).length = l.length * 2
  | [] => rfl
  | s :: l => by simp only [flatP, List.length_cons, flatP_length l]; omega
theorem flatP_append : ∀ (l m : List (Int × Int)), flatP (l ++ m) = flatP l ++ flatP m
  | [], _ => rfl
  | x :: l, m => by simp only [flatP, List.cons_append, flatP_append l m]
theorem flatP_at : ∀ (l : List (Int × Int)) (i : Nat) (h : i < l.length), (flatP l)[i * 2]? = some (.int .i64 l[i].1) ∧ (flatP l)[i * 2 + 1]? = some (.int .i64 l[i].2)
  | [], _, h => by simp at h
  | s :: l, 0, _ => ⟨rfl, rfl⟩
  | s :: l, i + 1, h => by
    have k := flatP_at l i (by simpa using h)
    have e : (i + 1) * 2 = i * 2 + 1 + 1 := by omega
    rw [e]
    exact k
/-- the cells after the last run's end is set -/
theorem flatP_setHi {L : List (Int × Int)} (h : L ≠ []) (x : Int) : (flatP L).set ((L.length - 1) * 2 + 1) (.int .i64 x) = flatP (setHi L x) := by
  have e : L = L.dropLast ++ [L.getLast h] := (List.dropLast_concat_getLast h).symm
  have d : L.getLastD (0, 0) = L.getLast h := by rw [List.getLastD_eq_getLast?, List.getLast?_eq_some_getLast h]; rfl
  have n : L.dropLast.length = L.length - 1 := List.length_dropLast
  rw [setHi, d, flatP_append]
  conv => lhs; rw [e, flatP_append]
  rw [List.length_append, n]
  simp only [List.length_singleton]
  rw [show L.length - 1 + 1 - 1 = L.length - 1 by omega, List.set_append_right _ _ (by rw [flatP_length, n]; omega), flatP_length, n, show (L.length - 1) * 2 + 1 - (L.length - 1) * 2 = 1 by omega]
  rfl
/-- what a chunk gives: its sum, or a missing depth -/
def chV (p : List Int) : Int := if p.contains (-1) then -1 else ps p p.length
/-- a chunk of k depths -/
def part (l : List Int) (k i : Nat) : List Int := (l.drop (i * k)).take k
def chL (l : List Int) (k m : Nat) : List Int := (List.range m).map fun i => chV (part l k i)
theorem chL_succ (l : List Int) (k m : Nat) : chL l k (m + 1) = chL l k m ++ [chV (part l k m)] := by simp [chL, List.range_succ]
theorem chL_length (l : List Int) (k m : Nat) : (chL l k m).length = m := by simp [chL]
theorem part_length {l : List Int} {k m i : Nat} (h : l.length = m * k) (hi : i < m) : (part l k i).length = k := by
  have : (i + 1) * k ≤ m * k := Nat.mul_le_mul_right k hi
  rw [Nat.add_mul, Nat.one_mul] at this
  simp [part]; omega
theorem part_at {l : List Int} {k i j : Nat} (hj : j < k) : (part l k i).getD j 0 = l.getD (i * k + j) 0 := by
  simp [part, hj]
end Go.Proofs.YtkjndkeboeieoaaGreatDoor

namespace Go.Proofs.YtkjndkeboeieoaaGreatDoor
open Go.RowKit

def idxP (p : Int → Bool) (l : List Int) : Int := match l.findIdx? p with | some i => (i : Int) | none => -1
theorem idxP_no {p : Int → Bool} {l : List Int} (h : ∀ i (hi : i < l.length), p l[i] = false) : idxP p l = -1 := by
  have : l.findIdx? p = none := by
    rw [List.findIdx?_eq_none_iff]
    intro x hx
    obtain ⟨i, hi, rfl⟩ := List.mem_iff_getElem.1 hx
    exact h i hi
  simp [idxP, this]
theorem idxP_yes {p : Int → Bool} {l : List Int} {k : Nat} (hk : k < l.length) (h : ∀ i (hi : i < l.length), i < k → p l[i] = false) (hy : p l[k] = true) : idxP p l = k := by
  have : l.findIdx? p = some k := by
    rw [List.findIdx?_eq_some_iff_getElem]
    exact ⟨hk, hy, fun j hj => by rw [h j (by omega) hj]; simp⟩
  simp [idxP, this]
theorem any_idx (p : Int → Bool) (l : List Int) : l.any p = decide (0 ≤ idxP p l) := by
  unfold idxP
  cases h : l.findIdx? p with
  | none =>
    rw [List.findIdx?_eq_none_iff] at h
    rw [Bool.eq_iff_iff]
    simp only [List.any_eq_true, decide_eq_true_eq]
    constructor
    · rintro ⟨x, hx, hp⟩
      rw [h x hx] at hp
      cases hp
    · intro h'
      omega
  | some i =>
    rw [List.findIdx?_eq_some_iff_getElem] at h
    obtain ⟨hi, hp, _⟩ := h
    rw [Bool.eq_iff_iff]
    simp only [List.any_eq_true, decide_eq_true_eq]
    exact ⟨fun _ => by omega, fun _ => ⟨l[i], List.getElem_mem hi, hp⟩⟩

set_option maxHeartbeats 1000000 in
theorem idxfI_any (f : Nat) (p : Int → Bool) (hf : ∀ (d : Int) (w : World), Calls Tryz.prog f #[.int .i64 d] w fun e w' => e = .returned (.bool (p d)) ∧ w = w') (hc : ∀ (d : Int) (w : World), (callFunc f #[.int .i64 d]).run Tryz.prog w = .ok (.enter f #[.int .i64 d]) w) (l : List Int) (A : Option Addr) (cap : Nat) (w : World) (hl : IntSl w A l) :
    Calls Tryz.prog 67 #[.slice A l.length cap, .func (.func f) #[] #[]] w fun e w' => e = .returned (.int .i64 (idxP p l)) ∧ w = w' := by
  have hlen : l.length ≤ 9223372036854775807 := by have := hl.1.1; omega
  have H := hide hl
  have F := hide hf
  clear hl hf
  go_enter Tryz.func67, Tryz.ntmps67
  go_wp2
  go_loop [8] (fun v8 => ∃ k : Nat, k ≤ l.length ∧ v8 = .int .i64 k ∧ Hid (∀ i (hi : i < l.length), i < k → p l[i] = false)) (fun v8 => l.length - (intOf v8).toNat)
  case atStart => exact ⟨0, Nat.zero_le _, rfl, hide (fun _ _ h => by omega)⟩
  case round =>
    obtain ⟨k, hk, rfl, hno⟩ := hrel
    by_cases hlt : k < l.length
    · obtain ⟨b, off, rfl, hbl, hat⟩ := H.out.2 (by omega)
      have c0 := hat k hlt
      clear hat
      rcases Bool.eq_false_or_eq_true (p l[k]) with hs | hs
      · go_wp2_with fail
        refine (F.out l[k] _).mono ?_
        rintro e w' ⟨rfl, rfl⟩
        go_wp2
        go_ret
        exact ⟨ret_int (idxP_yes hlt (fun i hi hik => hno.out i hi hik) hs).symm, rfl⟩
      · go_wp2_with fail
        refine (F.out l[k] _).mono ?_
        rintro e w' ⟨rfl, rfl⟩
        go_wp2
        go_round
        case rel =>
          refine ⟨k + 1, by omega, by go_num, hide fun i hi hik => ?_⟩
          by_cases e : i = k
          · subst e; exact hs
          · exact hno.out i hi (by omega)
        case measure => simp [intOf]; omega
    · go_wp2
      go_ret
      exact ⟨ret_int (idxP_no fun i hi => hno.out i hi (by omega)).symm, rfl⟩
set_option maxHeartbeats 1000000 in
theorem contI_any (f : Nat) (p : Int → Bool) (hf : ∀ (d : Int) (w : World), Calls Tryz.prog f #[.int .i64 d] w fun e w' => e = .returned (.bool (p d)) ∧ w = w') (hc : ∀ (d : Int) (w : World), (callFunc f #[.int .i64 d]).run Tryz.prog w = .ok (.enter f #[.int .i64 d]) w) (l : List Int) (A : Option Addr) (cap : Nat) (w : World) (hl : IntSl w A l) :
    Calls Tryz.prog 42 #[.slice A l.length cap, .func (.func f) #[] #[]] w fun e w' => e = .returned (.bool (l.any p)) ∧ w = w' := by
  have F := hide hf
  have H := hide (any_idx p l)
  clear hf
  have HL := hide hl
  clear hl
  go_enter Tryz.func42, Tryz.ntmps42
  go_wp2_with fail
  refine (idxfI_any f p F.out hc l A cap _ HL.out).mono ?_
  rintro e w' ⟨rfl, rfl⟩
  go_wp2
  go_ret
  exact ⟨ret_bool H.out.symm, rfl⟩
theorem below_drewN {B : Nat} {a w : World} (h : Below B a w) (n : Nat) : Below B a (w.drewN n) := ⟨h.os, h.tape, h.output, h.size, h.block⟩
end Go.Proofs.YtkjndkeboeieoaaGreatDoor

namespace Go.Proofs.YtkjndkeboeieoaaGreatDoor
open Go.RowKit

/-- two lists of integers are equal -/
def eqB (l m : List Int) : Bool := decide (l = m)
set_option maxHeartbeats 1000000 in
theorem equalI_any (l m : List Int) (A B : Option Addr) (cap cap' : Nat) (w : World) (hl : IntSl w A l) (hm : IntSl w B m) :
    Calls Tryz.prog 20 #[.slice A l.length cap, .slice B m.length cap'] w fun e w' => e = .returned (.bool (eqB l m)) ∧ Below w.heap.size w w' := by
  have hlen : l.length ≤ 9223372036854775807 := by have := hl.1.1; omega
  have hlen' : m.length ≤ 9223372036854775807 := by have := hm.1.1; omega
  have H := hide hl
  have H' := hide hm
  clear hl hm
  by_cases hn : l.length = m.length
  case neg =>
    have q : ((l.length : Int) == (m.length : Int)) = false := by simp; omega
    have q' : ((l.length : Int) != (m.length : Int)) = true := by simp; omega
    have hv : eqB l m = false := by simp only [eqB, decide_eq_false_iff_not]; intro e; exact hn (by rw [e])
    have HV := hide hv
    clear hn hv
    go_enter Tryz.func20, Tryz.ntmps20
    go_wp2
    go_ret
    exact ⟨ret_bool HV.out.symm, Below.refl _ _⟩
  have q : ((l.length : Int) == (m.length : Int)) = true := by simp; omega
  have q' : ((l.length : Int) != (m.length : Int)) = false := by simp; omega
  have HN := hide hn
  clear hn
  go_enter Tryz.func20, Tryz.ntmps20
  go_wp2
  go_loopw [13] (fun v wr => ∃ k : Nat, k ≤ l.length ∧ v = .int .i64 k ∧ Below w.heap.size w wr ∧ Hid (∀ i (h : i < l.length) (h' : i < m.length), i < k → l[i] = m[i])) (fun v _ => l.length - (intOf v).toNat)
  case atStart => exact ⟨0, Nat.zero_le _, rfl, Below.refl _ _, hide (fun _ _ _ h => by omega)⟩
  case round =>
    obtain ⟨k, hk, rfl, hb, hno⟩ := hrel
    by_cases hlt : k < l.length
    · have hlt' : k < m.length := by rw [← HN.out]; exact hlt
      obtain ⟨b, off, rfl, hbl, hat⟩ := (H.out.below hb).2 (by omega)
      obtain ⟨b', off', rfl, hbl', hat'⟩ := (H'.out.below hb).2 (by omega)
      have c0 := hat k hlt
      have c1 := hat' k hlt'
      have g0 : (0 : Int) ≤ (k : Int) := by omega
      have g1 : (k : Int) < (l.length : Int) := by omega
      have g2 : (k : Int) < (m.length : Int) := by omega
      clear hat hat' q q'
      have HB := hide hb
      clear hb
      by_cases e : l[k] = m[k]
      · have e1 : (l[k] == m[k]) = true := by simpa using e
        have e2 : (l[k] != m[k]) = false := by simpa using e
        have E := hide e
        clear e
        go_wp2
        go_quiet (fail)
        go_wp2
        go_roundw
        case rel =>
          refine ⟨k + 1, by omega, by go_num, below_drewN HB.out _, hide fun i h h' hik => ?_⟩
          by_cases e : i = k
          · subst e; exact E.out
          · exact hno.out i h h' (by omega)
        case measure => simp [intOf]; omega
      · have e1 : (l[k] == m[k]) = false := by simpa using e
        have e2 : (l[k] != m[k]) = true := by simpa using e
        have hv : eqB l m = false := by simp only [eqB, decide_eq_false_iff_not]; intro h; exact e (by simp only [h])
        have HV := hide hv
        clear e hv
        go_wp2
        go_quiet (fail)
        go_wp2
        go_ret
        exact ⟨ret_bool HV.out.symm, below_drewN HB.out _⟩
    · have hv : eqB l m = true := by
        simp only [eqB, decide_eq_true_eq]
        exact List.ext_getElem HN.out (fun i h h' => hno.out i h h' (by omega))
      have HV := hide hv
      have HB := hide hb
      clear hv hb q q'
      go_wp2
      go_ret
      exact ⟨ret_bool HV.out.symm, HB.out⟩
end Go.Proofs.YtkjndkeboeieoaaGreatDoor

namespace Go.Proofs.YtkjndkeboeieoaaGreatDoor
open Go.RowKit

set_option maxHeartbeats 400000 in
theorem instant_any (t : Int) (w : World) : Calls Tryz.prog 41 #[.int .i64 t] w fun e w' => e = .returned (.bool (insB t)) ∧ w = w' := by
  have h : t < -68719476736 ∨ (-68719476736 ≤ t ∧ 68719476736 < t) ∨ (-68719476736 ≤ t ∧ t ≤ 68719476736) := by omega
  rcases h with h | ⟨h1, h2⟩ | ⟨h1, h2⟩
  all_goals
    go_enter Tryz.func41, Tryz.ntmps41
    go_wp2
    go_ret
    exact ⟨ret_bool (by unfold insB; simp; omega), rfl⟩
set_option maxHeartbeats 400000 in
theorem gvalid1_any (d : Int) (w : World) : Calls Tryz.prog 43 #[.int .i64 d] w fun e w' => e = .returned (.bool (decide (d < -1) || decide (4194304 < d))) ∧ w = w' := by
  have h : d < -1 ∨ (-1 ≤ d ∧ 4194304 < d) ∨ (-1 ≤ d ∧ d ≤ 4194304) := by omega
  rcases h with h | ⟨h1, h2⟩ | ⟨h1, h2⟩
  all_goals
    go_enter Tryz.func43, Tryz.ntmps43
    go_wp2
    go_ret
    exact ⟨ret_bool (by simp <;> omega), rfl⟩
def BPost (v : Bool) (w : World) (e : Ending) (w' : World) : Prop := e = .returned (.bool v) ∧ Below w.heap.size w w'
theorem BPost.mk {v b : Bool} {w w' : World} (h : v = b) (hb : Below w.heap.size w w') : BPost v w (.returned (.bool b)) w' := by subst h; exact ⟨rfl, hb⟩
set_option maxHeartbeats 2000000 in
theorem gvalid_any (s : Ser) (a : SerA) (w : World) (hs : SerSl w s a) : Calls Tryz.prog 13 #[s.val a] w (BPost (vS s) w) := by
  have X := (Own.start w).alloc (s.cells a) 24
  have hlen : s.ds.length ≤ 9223372036854775807 := hs.1.1.1
  have IN := hide (fun t W => instant_any t W)
  have hr := X.r1
  have n0 : (0 : Int) ≤ (s.ds.length : Int) := by omega
  have HS := hide hs
  have t : insB s.fr = false ∨ (insB s.fr = true ∧ s.st < 1) ∨ (insB s.fr = true ∧ 1 ≤ s.st ∧ 86400 < s.st) ∨ (insB s.fr = true ∧ 1 ≤ s.st ∧ s.st ≤ 86400 ∧ 10000 < s.ds.length) ∨ (insB s.fr = true ∧ 1 ≤ s.st ∧ s.st ≤ 86400 ∧ s.ds.length ≤ 10000) := by
    cases insB s.fr <;> simp <;> omega
  rcases t with t | ⟨t, t1⟩ | ⟨t, t1, t2⟩ | ⟨t, t1, t2, t3⟩ | ⟨t, t1, t2, t3⟩
  · have V := hide (show vS s = false by simp [vS, t])
    clear hs
    go_enter Tryz.func13, Tryz.ntmps13
    go_wp2_with fail
    refine (IN.out _ _).mono ?_
    rintro e w1 ⟨rfl, rfl⟩
    rw [t]
    go_wp2
    go_ret
    exact BPost.mk V.out X.1
  · have V := hide (show vS s = false by unfold vS; rw [show decide (1 ≤ s.st ∧ s.st ≤ 86400) = false from decide_eq_false (by omega)]; simp)
    clear hs
    go_enter Tryz.func13, Tryz.ntmps13
    go_wp2_with fail
    refine (IN.out _ _).mono ?_
    rintro e w1 ⟨rfl, rfl⟩
    rw [t]
    go_wp2
    go_ret
    exact BPost.mk V.out X.1
  · have V := hide (show vS s = false by unfold vS; rw [show decide (1 ≤ s.st ∧ s.st ≤ 86400) = false from decide_eq_false (by omega)]; simp)
    clear hs
    go_enter Tryz.func13, Tryz.ntmps13
    go_wp2_with fail
    refine (IN.out _ _).mono ?_
    rintro e w1 ⟨rfl, rfl⟩
    rw [t]
    go_wp2
    go_ret
    exact BPost.mk V.out X.1
  · have V := hide (show vS s = false by unfold vS; rw [show decide (s.ds.length ≤ 10000) = false from decide_eq_false (by omega)]; simp)
    have t3' : (10000 : Int) < (s.ds.length : Int) := by omega
    clear hs t3
    go_enter Tryz.func13, Tryz.ntmps13
    go_wp2_with fail
    refine (IN.out _ _).mono ?_
    rintro e w1 ⟨rfl, rfl⟩
    rw [t]
    go_wp2
    go_ret
    exact BPost.mk V.out X.1
  · have tf := of_decide_eq_true t
    have b1 : 0 ≤ s.st * (s.ds.length : Int) := Int.mul_nonneg (by omega) n0
    have b2 : s.st * (s.ds.length : Int) ≤ 86400 * 10000 := Int.mul_le_mul t2 (by omega) n0 (by omega)
    have s1 := IntWalk.i64_in (s.st * (s.ds.length : Int)) (by omega)
    have s2 := IntWalk.i64_in (s.fr + s.st * (s.ds.length : Int)) (by omega)
    have V := hide (show vS s = (insB (s.fr + s.st * s.ds.length) && okD s.ds) by unfold vS; rw [t, show decide (1 ≤ s.st ∧ s.st ≤ 86400) = true from decide_eq_true ⟨t1, t2⟩, show decide (s.ds.length ≤ 10000) = true from decide_eq_true t3]; simp)
    have t3' : ¬ (10000 : Int) < (s.ds.length : Int) := by omega
    have OK := hide (okD_any s.ds)
    have C := hide (fun W (h : IntSl W a.A s.ds) => contI_any 43 (fun d => decide (d < -1) || decide (4194304 < d)) (fun d W => gvalid1_any d W) (fun d W => by set_option maxRecDepth 100000 in rfl) s.ds a.A a.c W h)
    clear hs t3 tf b1 b2
    generalize hp : s.st * (s.ds.length : Int) = p at *
    generalize hq : s.fr + p = q at *
    rcases Bool.eq_false_or_eq_true (insB q) with u | u
    · go_enter Tryz.func13, Tryz.ntmps13
      go_wp2_with fail
      refine (IN.out _ _).mono ?_
      rintro e w1 ⟨rfl, rfl⟩
      rw [t]
      go_wp2_with fail
      refine (IN.out _ _).mono ?_
      rintro e w1 ⟨rfl, rfl⟩
      rw [u]
      go_wp2_with fail
      refine (C.out _ (HS.out.below X.1).1).mono ?_
      rintro e w1 ⟨rfl, rfl⟩
      go_wp2
      go_ret
      exact BPost.mk (V.out.trans (by rw [u, OK.out]; simp)) X.1
    · go_enter Tryz.func13, Tryz.ntmps13
      go_wp2_with fail
      refine (IN.out _ _).mono ?_
      rintro e w1 ⟨rfl, rfl⟩
      rw [t]
      go_wp2_with fail
      refine (IN.out _ _).mono ?_
      rintro e w1 ⟨rfl, rfl⟩
      rw [u]
      go_wp2
      go_ret
      exact BPost.mk (V.out.trans (by rw [u]; rfl)) X.1
set_option maxHeartbeats 400000 in
theorem gdepth_any (d : Int) (w : World) : Calls Tryz.prog 44 #[.int .i64 d] w fun e w' => e = .returned (.int .i64 (max d 0)) ∧ w = w' := by
  go_enter Tryz.func44, Tryz.ntmps44
  go_wp2
  all_goals
    go_ret
    exact ⟨ret_int (by omega), rfl⟩
def GrPost (n f er : Int) (w : World) (e : Ending) (w' : World) : Prop := e = .returned (.tuple #[.int .i64 n, .int .i64 f, .int .i64 er]) ∧ Below w.heap.size w w'
theorem GrPost.mk {n f er n' f' er' : Int} {w w' : World} (h1 : n = n') (h2 : f = f') (h3 : er = er') (hb : Below w.heap.size w w') : GrPost n f er w (.returned (.tuple #[.int .i64 n', .int .i64 f', .int .i64 er'])) w' := by subst h1 h2 h3; exact ⟨rfl, hb⟩
set_option maxRecDepth 100000 in
set_option maxHeartbeats 4000000 in
/-- Greatest of a valid record, for a number of steps within it -/
theorem greatest_in (s : Ser) (a : SerA) (k : Nat) (w : World) (hs : SerSl w s a) (hv : vS s = true) (h1 : 1 ≤ k) (h2 : k ≤ s.ds.length) :
    Calls Tryz.prog 16 #[s.val a, .int .i64 (k : Int)] w (GrPost (gm s.ds k s.ds.length) (gf s.ds k s.ds.length : Nat) 0 w) := by
  obtain ⟨fr, st, l⟩ := s
  obtain ⟨A, c⟩ := a
  simp only at h2
  have V := hide (fun W (h : SerSl W ⟨fr, st, l⟩ ⟨A, c⟩) => gvalid_any ⟨fr, st, l⟩ ⟨A, c⟩ W h)
  rw [hv] at V
  have v := vS_iff.1 hv
  have le : l.length ≤ 10000 := v.le
  have HV := hide v.ok
  have PB := hide (fun i hi => ps_le (fun i hi => (v.ok i hi).2) i hi)
  clear hv v
  obtain ⟨b, off, rfl, hbl, hat⟩ := hs.1.atg (by show 0 < l.length; omega)
  have HS := hide hs
  have X := (Own.start w).alloc #[.int .i64 fr, .int .i64 st, .slice (some ⟨b, off, none⟩) l.length c] 24
  clear hs
  have hr := X.r1
  have k1 : ¬ ((k : Int) < 1) := by omega
  have k2 : ¬ ((l.length : Int) < (k : Int)) := by omega
  have k3 : decide (l.length < k) = false := decide_eq_false (by omega)
  have k4 : decide ((k : Int) < 1) = false := decide_eq_false (by omega)
  have HAT := hide hat
  clear hat
  show Calls Tryz.prog 16 #[.agg #[.int .i64 fr, .int .i64 st, .slice (some ⟨b, off, none⟩) l.length c], .int .i64 (k : Int)] w (GrPost (gm l k l.length) (gf l k l.length : Nat) 0 w)
  go_enter Tryz.func16, Tryz.ntmps16
  go_wp2_with fail
  refine (V.out _ (HS.out.below X.1)).mono ?_
  rintro e w1 ⟨rfl, hb⟩
  replace X := X.to hb
  have hat := hide (fun i (hi : i < l.length) => (X.1.cell (p := ⟨b, off + i, none⟩) hbl).trans (HAT.out i hi))
  clear hb hr HS V HAT
  have hr := X.r1
  go_wp2
  go_loop [7, 8, 9, 27] (fun v7 v8 v9 v27 => ∃ i : Nat, i ≤ l.length ∧ v27 = .int .i64 (i : Int) ∧ v7 = .int .i64 (sk l k i) ∧ v8 = .int .i64 (gm l k i) ∧ v9 = .int .i64 (gf l k i : Nat)) (fun _ _ _ v27 => l.length - (intOf v27).toNat)
  case atStart => exact ⟨0, by omega, rfl, by simp [sk, ps], rfl, rfl⟩
  case round =>
    obtain ⟨i, hi, rfl, rfl, rfl, rfl⟩ := hrel
    by_cases hlt : i < l.length
    · have c0 := hat.out i hlt
      have st := sk_step l k i
      have v0 := HV.out i hlt
      have p0 := PB.out i (by show i ≤ l.length; omega)
      have p1 := PB.out (i + 1) (by show i + 1 ≤ l.length; omega)
      have sb := sk_bd l k i
      have sb1 := sk_bd l k (i + 1)
      have v0' : l.getD i 0 ≤ 4194304 := v0.2
      obtain ⟨x, hx⟩ : ∃ x, x = max (l.getD i 0) 0 := ⟨_, rfl⟩
      have D1 := hide (fun W => gdepth_any (l.getD i 0) W)
      have HM1 := hide (fun (h : k ≤ i + 1 ∧ gm l k i < sk l k (i + 1)) => (if_pos h : (if k ≤ i + 1 ∧ gm l k i < sk l k (i + 1) then sk l k (i + 1) else gm l k i) = _))
      have HM0 := hide (fun (h : ¬ (k ≤ i + 1 ∧ gm l k i < sk l k (i + 1))) => (if_neg h : (if k ≤ i + 1 ∧ gm l k i < sk l k (i + 1) then sk l k (i + 1) else gm l k i) = _))
      have HF1 := hide (fun (h : k ≤ i + 1 ∧ gm l k i < sk l k (i + 1)) => (if_pos h : (if k ≤ i + 1 ∧ gm l k i < sk l k (i + 1) then i + 1 - k else gf l k i) = _))
      have HF0 := hide (fun (h : ¬ (k ≤ i + 1 ∧ gm l k i < sk l k (i + 1))) => (if_neg h : (if k ≤ i + 1 ∧ gm l k i < sk l k (i + 1) then i + 1 - k else gf l k i) = _))
      have GM : Hid (gm l k (i + 1) = if k ≤ i + 1 ∧ gm l k i < sk l k (i + 1) then sk l k (i + 1) else gm l k i) := hide rfl
      have GF : Hid (gf l k (i + 1) = if k ≤ i + 1 ∧ gm l k i < sk l k (i + 1) then i + 1 - k else gf l k i) := hide rfl
      rw [← hx] at D1 st
      have x0 : 0 ≤ x ∧ x ≤ 4194304 := by rw [hx]; omega
      have kk := IntWalk.i64_in ((k : Int) - 1) (by omega)
      have sb2 : sk l k i ≤ 4194304 * (i : Int) := by omega
      have sb3 : sk l k (i + 1) ≤ 4194304 * (i + 1 : Int) := by omega
      have sb0 := sb.1
      have sb10 := sb1.1
      clear sb sb1 p0 p1 hx v0 v0'
      by_cases hk : k ≤ i
      · rw [if_pos hk] at st
        have c1 := hat.out (i - k) (by omega)
        obtain ⟨y, hy⟩ : ∃ y, y = max (l.getD (i - k) 0) 0 := ⟨_, rfl⟩
        have D2 := hide (fun W => gdepth_any (l.getD (i - k) 0) W)
        rw [← hy] at D2 st
        obtain ⟨t, ht⟩ : ∃ t, t = sk l k i + x := ⟨_, rfl⟩
        have s1 : IntKind.i64.wrap (sk l k i + x) = t := (IntWalk.i64_in _ (by omega)).trans ht.symm
        have s2 : IntKind.i64.wrap (t - y) = sk l k (i + 1) := (IntWalk.i64_in _ (by omega)).trans (by omega)
        have s3 : IntKind.i64.wrap ((i : Int) - (k : Int)) = ((i - k : Nat) : Int) := (IntWalk.i64_in _ (by omega)).trans (by omega)
        have s4 : IntKind.i64.wrap (((i - k : Nat) : Int) + 1) = ((i + 1 - k : Nat) : Int) := (IntWalk.i64_in _ (by omega)).trans (by omega)
        have q1 : (k : Int) ≤ (i : Int) := by omega
        have q2 : (k : Int) - 1 ≤ (i : Int) := by omega
        have q3 : ((i - k : Nat) : Int) < (l.length : Int) := by omega
        have q4 : (0 : Int) ≤ ((i - k : Nat) : Int) := by omega
        have HK := hide hk
        clear hy st ht hk sb2 sb3 sb0 sb10 x0
        generalize l.getD i 0 = d0 at *
        generalize l.getD (i - k) 0 = d1 at *
        generalize hj : i - k = j at *
        generalize hf : i + 1 - k = f at *
        generalize hS : sk l k i = S at *
        generalize hT : sk l k (i + 1) = T at *
        generalize hM : gm l k i = M at *
        generalize hG : gf l k i = G at *
        have HJ := hide (And.intro hj (And.intro hf (And.intro hS (And.intro hT (And.intro hM hG)))))
        clear hj hf hS hT hM hG
        by_cases m : M < T
        · have E1 := hide (GM.out.trans (HM1.out ⟨by have := HK.out; omega, m⟩))
          have E2 := hide (GF.out.trans (HF1.out ⟨by have := HK.out; omega, m⟩))
          clear HM1 HM0 HF1 HF0 GM GF
          go_wp2_with fail
          refine (D1.out _).mono ?_
          rintro e w2 ⟨rfl, rfl⟩
          go_wp2_with fail
          refine (D2.out _).mono ?_
          rintro e w2 ⟨rfl, rfl⟩
          go_wp2
          go_round
          case rel => exact ⟨i + 1, by omega, by go_num, by rw [HJ.out.2.2.2.1], by rw [E1.out], by rw [E2.out]⟩
          case measure => simp [intOf]; omega
        · have E1 := hide (GM.out.trans (HM0.out (fun h => m h.2)))
          have E2 := hide (GF.out.trans (HF0.out (fun h => m h.2)))
          clear HM1 HM0 HF1 HF0 GM GF
          go_wp2_with fail
          refine (D1.out _).mono ?_
          rintro e w2 ⟨rfl, rfl⟩
          go_wp2_with fail
          refine (D2.out _).mono ?_
          rintro e w2 ⟨rfl, rfl⟩
          go_wp2
          go_round
          case rel => exact ⟨i + 1, by omega, by go_num, by rw [HJ.out.2.2.2.1], by rw [E1.out], by rw [E2.out]⟩
          case measure => simp [intOf]; omega
      · rw [if_neg hk] at st
        have s1 : IntKind.i64.wrap (sk l k i + x) = sk l k (i + 1) := (IntWalk.i64_in _ (by omega)).trans (by omega)
        have s3 := IntWalk.i64_in ((i : Int) - (k : Int)) (by omega)
        have q1 : ¬ (k : Int) ≤ (i : Int) := by omega
        have HK := hide hk
        have q5 : i + 1 < k ∨ i + 1 = k := by omega
        clear st hk sb2 sb3 sb0 sb10 x0
        generalize l.getD i 0 = d0 at *
        generalize hf : i + 1 - k = f at *
        generalize hS : sk l k i = S at *
        generalize hT : sk l k (i + 1) = T at *
        generalize hM : gm l k i = M at *
        generalize hG : gf l k i = G at *
        have HJ := hide (And.intro hf (And.intro hS (And.intro hT (And.intro hM hG))))
        clear hf hS hT hM hG
        rcases q5 with q5 | q5
        · have E1 := hide (GM.out.trans (HM0.out (fun h => by omega)))
          have E2 := hide (GF.out.trans (HF0.out (fun h => by omega)))
          have q2 : ¬ ((k : Int) - 1 ≤ (i : Int)) := by omega
          clear HM1 HM0 HF1 HF0 GM GF q5
          go_wp2_with fail
          refine (D1.out _).mono ?_
          rintro e w2 ⟨rfl, rfl⟩
          go_wp2
          go_round
          case rel => exact ⟨i + 1, by omega, by go_num, by rw [HJ.out.2.2.1], by rw [E1.out], by rw [E2.out]⟩
          case measure => simp [intOf]; omega
        · have q2 : (k : Int) - 1 ≤ (i : Int) := by omega
          have s4 : IntKind.i64.wrap ((i : Int) - (k : Int) + 1) = (f : Int) := (IntWalk.i64_in _ (by omega)).trans (by have := HJ.out.1; omega)
          have Q5 := hide q5
          clear q5
          by_cases m : M < T
          · have E1 := hide (GM.out.trans (HM1.out ⟨by have := Q5.out; omega, m⟩))
            have E2 := hide (GF.out.trans (HF1.out ⟨by have := Q5.out; omega, m⟩))
            clear HM1 HM0 HF1 HF0 GM GF
            go_wp2_with fail
            refine (D1.out _).mono ?_
            rintro e w2 ⟨rfl, rfl⟩
            go_wp2
            go_round
            case rel => exact ⟨i + 1, by omega, by go_num, by rw [HJ.out.2.2.1], by rw [E1.out], by rw [E2.out]⟩
            case measure => simp [intOf]; omega
          · have E1 := hide (GM.out.trans (HM0.out (fun h => m h.2)))
            have E2 := hide (GF.out.trans (HF0.out (fun h => m h.2)))
            clear HM1 HM0 HF1 HF0 GM GF
            go_wp2_with fail
            refine (D1.out _).mono ?_
            rintro e w2 ⟨rfl, rfl⟩
            go_wp2
            go_round
            case rel => exact ⟨i + 1, by omega, by go_num, by rw [HJ.out.2.2.1], by rw [E1.out], by rw [E2.out]⟩
            case measure => simp [intOf]; omega
    · have e : i = l.length := by omega
      subst e
      go_wp2
      go_ret3
      exact GrPost.mk rfl rfl rfl X.1
end Go.Proofs.YtkjndkeboeieoaaGreatDoor
