/- Parts of one proof, joined: The areas of all inlets are those of the surface, also after a change of classes: the plain laws. Regions that draw their order, only read, and call functions that leave what was there as it is: one walk in the order of the text, in the class of the worlds in which the call's own blocks are whole. Regions that draw their order, of reads and calls that leave a class of worlds, ahead of some last operations that wait for all of them: one walk in the order of the text. The program's twice, isFace, Twice and Total of a valid surface: what each returns; nothing that was there is turned. slices.Clone at integers, and a copy that a call writes to; nothing that was there is turned. -/
import Derived.Test.YtaaadejamjbcbaaGreatDoorPkLanduseWhole2
import Derived.Test.YtaaadejamjbcbaaGreatDoorPkLanduseWhole8
import Derived.Deep.QuietTactic
import Derived.BigQuiet
import Derived.StillTail
import Derived.Test.YtaaadejamjbcbaaGreatDoorShelf5
import Derived.Test.YtaaadejamjbcbaaGreatDoorPkLanduseWhole4
namespace Go.Proofs.YtaaadejamjbcbaaGreatDoor
open Go Go.RowKit

def tot (ss : List Spt) (fs : List Fce) : Nat → Int
  | 0 => 0
  | k + 1 => tot ss fs k + twA ss (fcA fs k)
def ngS (ss : List Spt) (fs : List Fce) (inl : List Int) : Nat → Int
  | 0 => 0
  | k + 1 => ngS ss fs inl k + if inl.getD k (-1) < 0 then twA ss (fcA fs k) else 0
/-- sums of rows -/
def rs1 (f : Nat → Int) : Nat → Int
  | 0 => 0
  | x + 1 => rs1 f x + f x
def rsN (f : Nat → Nat → Int) : Nat → Int
  | 0 => 0
  | i + 1 => rsN f i + rs1 (f i) 16
theorem rs1_congr {f g : Nat → Int} (h : ∀ x, f x = g x) : ∀ m, rs1 f m = rs1 g m
  | 0 => rfl
  | m + 1 => by simp only [rs1]; rw [rs1_congr h m, h m]
theorem rsN_congr {f g : Nat → Nat → Int} (h : ∀ i x, f i x = g i x) : ∀ m, rsN f m = rsN g m
  | 0 => rfl
  | m + 1 => by simp only [rsN]; rw [rsN_congr h m, rs1_congr (h m)]
theorem rs1_add (f : Nat → Int) (P : Prop) [Decidable P] (c : Nat) (t : Int) : ∀ m, rs1 (fun x => f x + if P ∧ (c : Int) = (x : Int) then t else 0) m = rs1 f m + if P ∧ c < m then t else 0
  | 0 => by simp [rs1]
  | m + 1 => by
    simp only [rs1]
    rw [rs1_add f P c t m]
    by_cases h : P
    · by_cases e : c = m
      · subst e
        rw [if_neg (by omega), if_pos ⟨h, rfl⟩, if_pos ⟨h, by omega⟩]; omega
      · by_cases e2 : c < m
        · rw [if_pos ⟨h, e2⟩, if_neg (by omega), if_pos ⟨h, by omega⟩]; omega
        · rw [if_neg (by omega), if_neg (by omega), if_neg (by omega)]; omega
    · rw [if_neg (fun e => h e.1), if_neg (fun e => h e.1), if_neg (fun e => h e.1)]; omega
theorem rsN_add (f : Nat → Nat → Int) (a c : Nat) (hc : c < 16) (t : Int) : ∀ m, rsN (fun i x => f i x + if (a : Int) = (i : Int) ∧ (c : Int) = (x : Int) then t else 0) m = rsN f m + if a < m then t else 0
  | 0 => by simp [rsN]
  | m + 1 => by
    simp only [rsN]
    rw [rsN_add f a c hc t m, rs1_add (f m) ((a : Int) = (m : Int)) c t 16]
    by_cases e : a = m
    · subst e
      rw [if_neg (by omega), if_pos ⟨rfl, hc⟩, if_pos (by omega)]; omega
    · by_cases e2 : a < m
      · rw [if_pos e2, if_neg (by omega), if_pos (by omega)]; omega
      · rw [if_neg e2, if_neg (by omega), if_neg (by omega)]; omega
/-- what all inlets have, and what drains to none, is all -/
theorem whole_k {ss : List Spt} {fs : List Fce} {inl : List Int} {n R : Nat} (hR : ∀ k, k < n → inl.getD k (-1) < (R : Int)) (hk : ∀ k, k < n → 0 ≤ (fcA fs k).k ∧ (fcA fs k).k < 16) : ∀ k, k ≤ n → rsN (arV ss fs inl k) R + ngS ss fs inl k = tot ss fs k
  | 0, _ => by
    have z1 : ∀ m, rs1 (fun _ => (0 : Int)) m = 0 := fun m => by induction m with | zero => rfl | succ m ih => simp only [rs1]; rw [ih]; rfl
    have : ∀ m, rsN (arV ss fs inl 0) m = 0 := fun m => by
      induction m with
      | zero => rfl
      | succ m ih =>
        simp only [rsN]
        rw [ih, show rs1 (arV ss fs inl 0 m) 16 = 0 from (rs1_congr (g := fun _ => 0) (fun _ => rfl) 16).trans (z1 16)]; rfl
    rw [this]; rfl
  | k + 1, h => by
    have ih := whole_k (ss := ss) hR hk k (by omega)
    have r := hR k (by omega)
    obtain ⟨c0, c1⟩ := hk k (by omega)
    obtain ⟨c, hc⟩ : ∃ c : Nat, (fcA fs k).k = (c : Int) := ⟨(fcA fs k).k.toNat, by omega⟩
    simp only [ngS, tot]
    by_cases hn : inl.getD k (-1) < 0
    · rw [rsN_congr (g := arV ss fs inl k) (fun i x => by simp only [arV]; rw [if_neg (fun e => by have := e.1; omega), Int.add_zero]), if_pos hn]
      omega
    · obtain ⟨a, ha⟩ : ∃ a : Nat, inl.getD k (-1) = (a : Int) := ⟨(inl.getD k (-1)).toNat, by omega⟩
      rw [rsN_congr (g := fun i x => arV ss fs inl k i x + if (a : Int) = (i : Int) ∧ (c : Int) = (x : Int) then twA ss (fcA fs k) else 0) (fun i x => by simp only [arV]; rw [ha, hc]), rsN_add _ a c (by omega), if_pos (by omega), if_neg hn]
      omega
theorem arV_pos {ss : List Spt} {fs : List Fce} {inl : List Int} {n : Nat} (h : ∀ k, k < n → 0 ≤ twA ss (fcA fs k)) (i c : Nat) : ∀ k, k ≤ n → 0 ≤ arV ss fs inl k i c
  | 0, _ => by simp [arV]
  | k + 1, hk => by
    have := arV_pos (inl := inl) h i c k (by omega)
    have := h k (by omega)
    simp only [arV]
    split <;> omega
theorem rs1_mono {f : Nat → Int} (h : ∀ x, 0 ≤ f x) : ∀ a b, a ≤ b → rs1 f a ≤ rs1 f b := fun a b hab => by
  induction hab with
  | refl => exact Int.le_refl _
  | step _ ih => have := h ‹Nat›; simp only [rs1]; omega
theorem rs1_pos {f : Nat → Int} (h : ∀ x, 0 ≤ f x) (a : Nat) : 0 ≤ rs1 f a := rs1_mono h 0 a (Nat.zero_le _)
theorem rsN_mono {f : Nat → Nat → Int} (h : ∀ i x, 0 ≤ f i x) : ∀ a b, a ≤ b → rsN f a ≤ rsN f b := fun a b hab => by
  induction hab with
  | refl => exact Int.le_refl _
  | step _ ih => have := rs1_pos (h ‹Nat›) 16; simp only [rsN]; omega
theorem ngS_mono {ss : List Spt} {fs : List Fce} {inl : List Int} {n : Nat} (h : ∀ k, k < n → 0 ≤ twA ss (fcA fs k)) : ∀ k, k ≤ n → 0 ≤ ngS ss fs inl k ∧ ngS ss fs inl k ≤ ngS ss fs inl n := by
  have up : ∀ k, k < n → ngS ss fs inl k ≤ ngS ss fs inl (k + 1) := fun k hk => by
    have := h k hk
    simp only [ngS]
    split <;> omega
  have le : ∀ a b, a ≤ b → b ≤ n → ngS ss fs inl a ≤ ngS ss fs inl b := fun a b hab => by
    induction hab with
    | refl => exact fun _ => Int.le_refl _
    | step _ ih => exact fun hb => Int.le_trans (ih (by omega)) (up _ (by omega))
  exact fun k hk => ⟨le 0 k (Nat.zero_le _) hk, le k n hk (Nat.le_refl _)⟩
theorem tot_bd {ss : List Spt} {fs : List Fce} {n : Nat} (h : ∀ k, k < n → 0 ≤ twA ss (fcA fs k) ∧ twA ss (fcA fs k) ≤ 2251799813685248) : ∀ k, k ≤ n → 0 ≤ tot ss fs k ∧ tot ss fs k ≤ 2251799813685248 * (k : Int)
  | 0, _ => by simp [tot]
  | k + 1, hk => by
    have := tot_bd h k (by omega)
    have := h k (by omega)
    simp only [tot]; omega
/-- a change of classes -/
theorem chf_same (p : Int) (f : Fce) : chf p p f = f := by
  unfold chf
  split
  · rename_i h; obtain ⟨a, b, c, k⟩ := f; simp at h; rw [h]
  · rfl
theorem chf_map_same (p : Int) (fs : List Fce) : fs.map (chf p p) = fs := by
  rw [show chf p p = id from funext (chf_same p), List.map_id]
theorem chf_abc (p q : Int) (f : Fce) : (chf p q f).a = f.a ∧ (chf p q f).b = f.b ∧ (chf p q f).c = f.c := by
  unfold chf; split <;> exact ⟨rfl, rfl, rfl⟩
theorem chf_k (p q : Int) (f : Fce) : (chf p q f).k = if f.k = p then q else f.k := by
  unfold chf; split <;> rfl
theorem sdA_chf (p q : Int) (f : Fce) (m : Nat) : sdA (chf p q f) m = sdA f m := by
  obtain ⟨h1, h2, h3⟩ := chf_abc p q f
  match m with
  | 0 => simp only [sdA]; rw [h1, h2]
  | 1 => simp only [sdA]; rw [h2, h3]
  | m + 2 => simp only [sdA]; rw [h1, h3]
theorem ssB_chf (p q : Int) (f g : Fce) : ssB (chf p q f) (chf p q g) = ssB f g := by
  unfold ssB; simp only [sdA_chf]
theorem triA_chf (ss : List Spt) (p q : Int) (f : Fce) : triA ss (chf p q f) = triA ss f := by
  obtain ⟨h1, h2, h3⟩ := chf_abc p q f
  unfold triA; rw [h1, h2, h3]
theorem twA_chf (ss : List Spt) (p q : Int) (f : Fce) : twA ss (chf p q f) = twA ss f := by unfold twA; rw [triA_chf]
theorem posB_chf (ss : List Spt) (p q : Int) (f : Fce) : posB ss (chf p q f) = posB ss f := by unfold posB; rw [triA_chf]
theorem crB_chf {ss : List Spt} {p q : Int} {f : Fce} (hq : 0 ≤ q ∧ q ≤ 15) (h : crB ss f = true) : crB ss (chf p q f) = true := by
  obtain ⟨h1, h2, h3⟩ := chf_abc p q f
  have hk := chf_k p q f
  simp only [crB, Bool.and_eq_true, decide_eq_true_eq] at h ⊢
  rw [h1, h2, h3, hk]
  refine ⟨⟨h.1.1, ?_⟩, ?_⟩
  · split
    · omega
    · exact h.1.2
  · split
    · omega
    · exact h.2
theorem fcA_map {g : Fce → Fce} {fs : List Fce} {i : Nat} (h : i < fs.length) : fcA (fs.map g) i = g (fcA fs i) := by
  simp [fcA, h]
theorem any_mem {α : Type} {l : List α} {f g : α → Bool} (h : ∀ x ∈ l, f x = g x) : l.any f = l.any g := by
  induction l with
  | nil => rfl
  | cons a l ih => simp only [List.any_cons]; rw [h a (by simp), ih (fun x hx => h x (by simp [hx]))]
theorem snd_lt {ss : List Spt} {fs : List Fce} {k j : Nat} (h : j ∈ snd ss fs k) : j < k := List.mem_range.1 (List.mem_filter.1 h).1
theorem vM_chg {ss : List Spt} {fs : List Fce} {p q : Int} (hq : 0 ≤ q ∧ q ≤ 15) (h : vM ⟨ss, fs⟩ = true) : vM ⟨ss, fs.map (chf p q)⟩ = true := by
  have F := vM_face h
  have F' : ∀ i, i < fs.length → crB ss (fcA (fs.map (chf p q)) i) = true ∧ posB ss (fcA (fs.map (chf p q)) i) = true := fun i hi => by
    rw [fcA_map hi, posB_chf]
    exact ⟨crB_chf hq (F i hi).1, (F i hi).2⟩
  have S : ∀ i, i ≤ fs.length → snd ss (fs.map (chf p q)) i = snd ss fs i := fun i hi => by
    unfold snd
    refine List.filter_congr (fun k hk => ?_)
    have hk : k < i := List.mem_range.1 hk
    rw [(F k (by omega)).1, (F k (by omega)).2, (F' k (by omega)).1, (F' k (by omega)).2]
  simp only [vM, Bool.and_eq_true, decide_eq_true_eq] at h ⊢
  obtain ⟨hs, e1, e2, e3, e4, e5, e6⟩ := h
  rw [List.length_map]
  refine ⟨by simpa [smB] using hs, e1, e2, ?_, ?_, ?_, ?_⟩
  · rw [← e3]; unfold fin3
    refine List.filter_congr (fun k hk => ?_)
    have hk : k < fs.length := List.mem_range.1 hk
    rw [(F k hk).1, (F' k hk).1]
  · rw [← e4]; unfold fin4
    refine List.filter_congr (fun k hk => ?_)
    have hk : k < fs.length := List.mem_range.1 hk
    rw [(F k hk).1, (F' k hk).1, (F k hk).2, (F' k hk).2]
  · rw [← e5]; unfold fin5
    refine List.filter_congr (fun k hk => ?_)
    have hk : k < fs.length := List.mem_range.1 hk
    rw [(F k hk).1, (F' k hk).1, (F k hk).2, (F' k hk).2, S k (by omega)]
    congr 1
    refine any_mem (fun j hj => ?_)
    rw [fcA_map hk, fcA_map (show j < fs.length by have := snd_lt hj; omega), ssB_chf]
  · rw [← e6]; unfold fin6
    refine List.filter_congr (fun k hk => ?_)
    have hk : k < fs.length := List.mem_range.1 hk
    rw [(F k hk).1, (F' k hk).1, (F k hk).2, (F' k hk).2, S k (by omega)]
    congr 1
    refine any_mem (fun j hj => ?_)
    rw [fcA_map hk, fcA_map (show j < fs.length by have := snd_lt hj; omega), triA_chf, triA_chf]
/-- the areas after a change -/
theorem arV_chg {ss : List Spt} {fs : List Fce} {inl : List Int} {p q : Nat} (hpq : p ≠ q) (i c : Nat) : ∀ k, k ≤ fs.length → arV ss (fs.map (chf (p : Int) (q : Int))) inl k i c = if c = q then arV ss fs inl k i q + arV ss fs inl k i p else if c = p then 0 else arV ss fs inl k i c
  | 0, _ => by simp [arV]
  | k + 1, hk => by
    have ih := arV_chg (ss := ss) (fs := fs) (inl := inl) hpq i c k (by omega)
    simp only [arV]
    rw [fcA_map (show k < fs.length by omega), twA_chf, chf_k, ih]
    by_cases hi : inl.getD k (-1) = (i : Int)
    · by_cases e1 : (fcA fs k).k = (p : Int)
      · rw [if_pos e1]
        simp only [hi, e1, true_and]
        repeat' split
        all_goals first | omega | (subst_vars; omega) | (simp_all <;> omega)
      · rw [if_neg e1]
        simp only [hi, true_and]
        repeat' split
        all_goals first | omega | (subst_vars; omega) | (simp_all <;> omega)
    · simp only [hi, false_and, if_false, Int.add_zero]
theorem arE_chg {fs : List Fce} {inl : List Int} {p q : Int} (hq : q ≤ 15) (h : arE fs inl 16 = 0) : arE (fs.map (chf p q)) inl 16 = 0 := by
  unfold arE at h ⊢
  rw [List.length_map]
  by_cases h3 : inl.length = fs.length
  · rw [if_neg (by simpa using h3)] at h ⊢
    by_cases h2 : (16 : Int) < 1 ∨ (16 : Int) < 16 ∨ inl.any bdI = true
    · rw [if_pos h2] at h; omega
    · rw [if_neg h2] at h ⊢
      rw [if_neg]
      intro e
      obtain ⟨f, hf, e⟩ := List.any_eq_true.1 e
      obtain ⟨g, hg, rfl⟩ := List.mem_map.1 hf
      rw [chf_k] at e
      by_cases h1 : fs.any (fun f => decide ((16 : Int) ≤ f.k)) = true
      · rw [if_pos h1] at h; omega
      · apply h1
        refine List.any_eq_true.2 ⟨g, hg, ?_⟩
        simp only [decide_eq_true_eq] at e ⊢
        split at e
        · omega
        · exact e
  · rw [if_pos h3] at h; omega
end Go.Proofs.YtaaadejamjbcbaaGreatDoor

namespace Go.Proofs.YtaaadejamjbcbaaGreatDoor
open Go.RowKit

/-- the worlds in which the blocks of L are whole, and what was there in w is as it was -/
structure OwnW (w : World) (L : List (Nat × TypeId × Array Value)) where
  W : World
  own : Own w W L
theorem wp_region_own {P : Program} {id : Nat} {Q : Exit → Act → World → Prop} {a : Act} {w W : World} {L : List (Nat × TypeId × Array Value)} {l : List Oper} (hm : P.follows .mixedOrders = true) (hB : Region.lexB .any l.toArray = true) (hX : Own w W L)
    (h : wpQuiet P l.toArray (fun W' => ∃ x : OwnW w L, W' = x.W) (fun a' => ∀ W', (∃ x : OwnW w L, W' = x.W) → Q .normal a' W') l a) : (Code.region id l.toArray true).wp P Q a W :=
  wp_region_quiet (C := fun W' => ∃ x : OwnW w L, W' = x.W) hm hB ⟨⟨W.drew, hX.drew⟩, rfl⟩ (by simpa using h)
theorem own_call {P : Program} {f : FuncId} {args : Array Value} {w : World} {L : List (Nat × TypeId × Array Value)} {v : Value} {x : OwnW w L}
    (h : Calls P f args x.W fun e w' => e = .returned v ∧ Below x.W.heap.size x.W w') : Calls P f args x.W fun e w'' => e = .returned v ∧ ∃ y : OwnW w L, w'' = y.W :=
  h.mono fun _ w' ⟨he, hb⟩ => ⟨he, ⟨w', x.own.to hb⟩, rfl⟩
theorem own_same {P : Program} {f : FuncId} {args : Array Value} {w : World} {L : List (Nat × TypeId × Array Value)} {v : Value} {x : OwnW w L}
    (h : Calls P f args x.W fun e w' => e = .returned v ∧ x.W = w') : Calls P f args x.W fun e w'' => e = .returned v ∧ ∃ y : OwnW w L, w'' = y.W :=
  h.mono fun _ _ ⟨he, hb⟩ => ⟨he, x, hb.symm⟩
end Go.Proofs.YtaaadejamjbcbaaGreatDoor

namespace Go.Proofs.YtaaadejamjbcbaaGreatDoor
open Go Go.RowKit

section
variable {P : Program} {ops : Array Oper} {md : Region.Mode} {C : World → Prop} {n : Nat}
/-- so many picks, all out of the head, and then L -/
def picks (P : Program) (md : Region.Mode) (ops : Array Oper) (C : World → Prop) (n : Nat) (L : Array Bool → Act → Prop) : Nat → Array Bool → Act → Prop
  | 0, m, a => L m a
  | f + 1, m, a => Region.ready md ops m ≠ [] ∧ ∀ i ∈ Region.ready md ops m, i < n ∧ qOp P ops C i (picks P md ops C n L f (m.setIfInBounds i true)) a
theorem any_of_picks {L : Array Bool → Act → Prop} {g : Nat} {Q : Exit → Act → World → Prop} (h : ∀ m a w, C w → L m a → wpAny P md ops Q g m a w) (f : Nat) : ∀ m a w, C w → picks P md ops C n L f m a → wpAny P md ops Q (f + g) m a w := by
  induction f with
  | zero => intro m a w hw hp; rw [Nat.zero_add]; exact h m a w hw hp
  | succ f ih =>
    intro m a w hw hp
    rw [Nat.add_right_comm]
    refine ⟨fun e => absurd e hp.1, fun i hi => ?_⟩
    exact wpOp_of_qOp hw (fun a' w' hw' hp' => ih _ a' w' hw' hp') (hp.2 i hi).2
/-- what no longer waits for i -/
theorem not_on {m : Array Bool} {i j : Nat} (hi : i ∈ Region.ready md ops m) (hj : j ∈ Region.ready md ops m) : ∀ o, ops[j]? = some o → ∀ e ∈ o.after, Region.binds md e = true → e.on ≠ i := by
  intro o ho e he hb eq
  obtain ⟨_, o', ho', all⟩ := mem_ready.1 hj
  obtain rfl := Option.some.inj (ho.symm.trans ho')
  have q := all e he hb
  rw [eq, getD_both (mem_ready.1 hi).1] at q
  cases q
/-- one that may come up now may be taken first -/
theorem picks_take {L : Array Bool → Act → Prop} {i : Nat} {o : Oper} {v : Value} (ho : ops[i]? = some o) (hsel : Region.noSelect ops = true) (hsink : Region.sinkB md ops n = true) (hch : Region.chainB md ops n = true) (hn : n < ops.size) (hin : i < n)
    (hL : ∀ m a, L m a → ∀ j ∈ Region.ready md ops m, n ≤ j) (f : Nat) : ∀ m a, HeadInv md ops n m →
      (∀ j oj, ops[j]? = some oj → j ≠ i → m.getD j true = false → (∀ e ∈ oj.after, Region.binds md e = true → e.on ≠ i) → o.apart ops oj = true) →
      i ∈ Region.ready md ops m → YieldsIn P ops C o v a → picks P md ops C n L f (m.setIfInBounds i true) (a.put o.dst v) → picks P md ops C n L (f + 1) m a := by
  have sel := Region.noSelect_spec hsel
  induction f with
  | zero =>
    intro m a inv _ hi hy hp
    refine ⟨List.ne_nil_of_mem hi, fun j hj => ?_⟩
    by_cases e : j = i
    · subst e; exact ⟨hin, hy.qOp ho hp⟩
    · have h1 := hL _ _ hp j (ready_mono hj e)
      exact absurd hj (tail_waits hsink hch hn inv _ i rfl hin (mem_ready.1 hi).1 j h1)
  | succ f ih =>
    intro m a inv hap hi hy hp
    refine ⟨List.ne_nil_of_mem hi, fun j hj => ?_⟩
    by_cases e : j = i
    · subst e; exact ⟨hin, hy.qOp ho hp⟩
    · have hjn : j < n := Nat.lt_of_not_le fun h => tail_waits hsink hch hn inv _ i rfl hin (mem_ready.1 hi).1 j h hj
      obtain ⟨free, oj, hoj, _⟩ := mem_ready.1 hj
      have k := qOp_put hoj (hap j oj hoj e free (not_on hi hj oj hoj)) (fun cs b => sel i o cs b ho) (fun cs b => sel j oj cs b hoj) hy (hp.2 j (ready_mono hj e)).2
      refine ⟨hjn, qOp_mono (fun a' q => ih _ a' (inv.set hj hjn) (fun x ox hx hxi hxm hxe => ?_) (ready_mono hi (Ne.symm e)) q.1 ?_) k⟩
      · refine hap x ox hx hxi ?_ hxe
        by_cases ex : j = x
        · subst ex; exact free
        · rwa [getD_set_ne true ex] at hxm
      · rw [Array.setIfInBounds_comm _ _ e]; exact q.2
/-- the head in the order of the text -/
theorem picks_text {g : Nat} {T : Act → Prop} (hsel : Region.noSelect ops = true) (hsink : Region.sinkB md ops n = true) (hch : Region.chainB md ops n = true) (hn : n < ops.size) :
    ∀ (l : List Oper) (k : Nat) (m : Array Bool) (a : Act), (∀ j, j < l.length → l[j]? = ops[k + j]?) → k + l.length = n → HeadInv md ops n m → Region.lexHead md ops g l.length k m = true → wpQuiet P ops C T l a →
      picks P md ops C n (fun m' a' => Region.seqB md ops g n m' = true ∧ T a') l.length m a := by
  intro l
  induction l with
  | nil =>
    intro k m a _ hk _ hb hq
    obtain rfl : k = n := by simpa using hk
    exact ⟨by simpa [Region.lexHead] using hb, hq⟩
  | cons o l ih =>
    intro k m a hl hk inv hb hq
    have ho : ops[k]? = some o := by simpa using (hl 0 (by simp)).symm
    rw [List.length_cons] at hk
    simp only [List.length_cons, Region.lexHead, Bool.and_eq_true] at hb
    obtain ⟨⟨hr, hf⟩, hb⟩ := hb
    have hr : k ∈ Region.ready md ops m := by simpa using hr
    obtain ⟨v, hy, hrest⟩ := yieldsIn_of_qOp ho (show qOp P ops C k (wpQuiet P ops C T l) a by unfold qOp; rw [ho]; exact hq)
    refine picks_take ho hsel hsink hch hn (by omega) (fun m' a' h => seqB_ready h.1) l.length m a inv (Region.free_spec ho hf) hr hy ?_
    exact ih (k + 1) _ _ (fun j hj => by have := hl (j + 1) (by simpa using hj); rw [Nat.add_assoc, Nat.add_comm 1 j]; simpa using this) (by omega) (inv.set hr (by omega)) hb hrest
end
/-- a region whose last operations wait for all the others, which only read or call: in the order of the text -/
theorem wp_region_qtail {P : Program} {C : World → Prop} {id : Nat} {Q : Exit → Act → World → Prop} {a : Act} {w : World} {l : List Oper} (n : Nat) (hB : Region.lexTailB .any l.toArray n = true) (hm : P.follows .mixedOrders = true) (hC : C w.drew)
    (h : wpQuiet P l.toArray C (fun a' => ∀ w', C w' → wpList P l.toArray Q (l.drop n) a' w') (l.take n) a) : (Code.region id l.toArray true).wp P Q a w := by
  simp only [Region.lexTailB, Bool.and_eq_true, decide_eq_true_eq] at hB
  obtain ⟨⟨⟨⟨hsel, hn⟩, hs⟩, hc⟩, hx⟩ := hB
  have hn' : n < l.length := by simpa using hn
  have ht : (l.take n).length = n := by rw [List.length_take]; omega
  have hd : (l.drop n).length = l.toArray.size - n := by simp
  have inv : HeadInv .any l.toArray n (Array.replicate l.toArray.size false) :=
    ⟨by simp, fun j oj _ hl => (by rw [getD_replicate_false] at hl; cases hl), fun t _ ht => getD_in (by simpa using ht) (getD_replicate_false _ _)⟩
  have H := picks_text (md := .any) (g := l.toArray.size - n) hsel hs hc hn (l.take n) 0 _ a (fun j hj => by
    rw [ht] at hj
    simp [hj]) (by omega) inv (by rw [ht]; exact hx) h
  refine wp_region_any hm ?_
  have K := any_of_picks (Q := Q) (g := l.toArray.size - n) (fun m a' w' hw' hL => by
    have := wpAny_of_seq (md := .any) (Q' := Q) (l.drop n) n m a' w' (fun j => by simp [List.getElem?_drop]) (by rw [hd]; exact hL.1) (hL.2 w' hw')
    rwa [hd] at this) _ _ _ { w with drawn := w.drawn + 1 } hC H
  rw [ht, show n + (l.toArray.size - n) = l.toArray.size by omega] at K
  exact K
/-- the same at the class of the worlds in which the call's own blocks are whole -/
theorem wp_region_own_tail {P : Program} {id : Nat} {Q : Exit → Act → World → Prop} {a : Act} {w W : World} {L : List (Nat × TypeId × Array Value)} {l : List Oper} (n : Nat) (hB : Region.lexTailB .any l.toArray n = true) (hm : P.follows .mixedOrders = true) (hX : Own w W L)
    (h : wpQuiet P l.toArray (fun W' => ∃ x : OwnW w L, W' = x.W) (fun a' => ∀ W', (∃ x : OwnW w L, W' = x.W) → wpList P l.toArray Q (l.drop n) a' W') (l.take n) a) : (Code.region id l.toArray true).wp P Q a W :=
  wp_region_qtail n hB hm ⟨⟨W.drew, hX.drew⟩, rfl⟩ h
end Go.Proofs.YtaaadejamjbcbaaGreatDoor

namespace Go.Proofs.YtaaadejamjbcbaaGreatDoor
open Go Go.RowKit

set_option maxRecDepth 100000 in
set_option maxHeartbeats 2000000 in
theorem mtw_any (m : Msh) (a : MshA) (fa fb fc fk : Int) (w : World) (hm : MshSl w m a) (hs : m.ss.length ≤ 2000) (hcr : crB m.ss ⟨fa, fb, fc, fk⟩ = true) :
    Calls Tryz.prog 35 #[m.val a, .agg #[.int .i64 fa, .int .i64 fb, .int .i64 fc, .int .i64 fk]] w (RetW (.int .i64 (twA m.ss ⟨fa, fb, fc, fk⟩)) w) := by
  have hin := tri_in hs hcr
  obtain ⟨ha, hb, hc⟩ := crB_cn hcr
  have ia : 0 ≤ fa ∧ fa < m.ss.length := by simp only [cnB, Bool.and_eq_true, decide_eq_true_eq] at ha; exact ha.1
  have ib : 0 ≤ fb ∧ fb < m.ss.length := by simp only [cnB, Bool.and_eq_true, decide_eq_true_eq] at hb; exact hb.1
  have ic : 0 ≤ fc ∧ fc < m.ss.length := by simp only [cnB, Bool.and_eq_true, decide_eq_true_eq] at hc; exact hc.1
  have TR := hide (fun W h => mstri_any m a ⟨fa, fb, fc, fk⟩ W h ia ib ic)
  unfold RetW at TR
  obtain ⟨T, eT⟩ : ∃ T, triA m.ss ⟨fa, fb, fc, fk⟩ = T := ⟨_, rfl⟩
  have E : Hid (twA m.ss ⟨fa, fb, fc, fk⟩ = trn T.p T.q T.r) := hide (by rw [← eT]; rfl)
  rw [eT] at TR hin
  have TN := hide (fun W => msturn_any T.p T.q T.r W hin.1 hin.2.1 hin.2.2)
  unfold RetW at TN
  have X := ((Own.start w).alloc (m.cells a) 25).alloc #[.int .i64 fa, .int .i64 fb, .int .i64 fc, .int .i64 fk] 65
  rw [World.size_alloc] at X
  have hr := X.r2
  have HM := hide hm
  clear hm ha hb hc ia ib ic eT hin hcr hs
  rw [E.out]
  generalize trn T.p T.q T.r = n at *
  go_enter Tryz.func35, Tryz.ntmps35
  go_wp2_with fail
  refine (TR.out _ (HM.out.below X.1)).mono ?_
  rintro e w1 ⟨rfl, hb⟩
  have HX := hide ((X.to hb).alloc #[.int .i64 T.p.x, .int .i64 T.p.y, .int .i64 T.q.x, .int .i64 T.q.y, .int .i64 T.r.x, .int .i64 T.r.y] 102)
  clear hb hr X TR HM
  have hr := HX.out.r3
  go_wp2_with fail
  refine (TN.out _).mono ?_
  rintro e w2 ⟨rfl, hb⟩
  replace HX := hide (HX.out.to hb)
  clear hb hr
  go_wp2
  go_ret
  exact ⟨rfl, HX.out.1⟩
set_option maxHeartbeats 1000000 in
theorem misface_any (m : Msh) (a : MshA) (i : Int) (w : World) : Calls Tryz.prog 36 #[m.val a, .int .i64 i] w (RetW (.bool (decide (0 ≤ i) && decide (i < m.fs.length))) w) := by
  have X := (Own.start w).alloc (m.cells a) 25
  have hr := X.r1
  by_cases h1 : 0 ≤ i
  · have q1 : decide (0 ≤ i) = true := decide_eq_true h1
    obtain ⟨k, rfl⟩ : ∃ k : Nat, i = (k : Int) := ⟨i.toNat, by omega⟩
    by_cases h2 : k < m.fs.length
    · have q2 : decide (k < m.fs.length) = true := decide_eq_true h2
      have q3 : decide ((k : Int) < (m.fs.length : Int)) = true := decide_eq_true (by omega)
      rw [q1, q3]
      go_enter Tryz.func36, Tryz.ntmps36
      go_wp2
      go_ret
      exact ⟨rfl, X.1⟩
    · have q2 : decide (k < m.fs.length) = false := decide_eq_false h2
      have q3 : decide ((k : Int) < (m.fs.length : Int)) = false := decide_eq_false (by omega)
      rw [q1, q3]
      go_enter Tryz.func36, Tryz.ntmps36
      go_wp2
      go_ret
      exact ⟨rfl, X.1⟩
  · have q1 : decide (0 ≤ i) = false := decide_eq_false h1
    rw [q1]
    go_enter Tryz.func36, Tryz.ntmps36
    go_wp2
    go_ret
    exact ⟨rfl, X.1⟩
def TwPost (v er : Int) (w : World) (e : Ending) (w' : World) : Prop := e = .returned (.tuple #[.int .i64 v, .int .i64 er]) ∧ Below w.heap.size w w'
set_option maxRecDepth 100000 in
set_option maxHeartbeats 4000000 in
theorem mTwice_any (ss : List Spt) (fs : List Fce) (A1 A2 : Option Addr) (c1 c2 : Nat) (k : Nat) (w : World) (hm : MshSl w ⟨ss, fs⟩ ⟨A1, c1, A2, c2⟩) (ht : Lib.TabIs Tryz.prog w "internal/strconv.uint64pow10" .u64 Lib.pow10Tab) (hv : vM ⟨ss, fs⟩ = true) (hk : k < fs.length) :
    Calls Tryz.prog 17 #[.agg #[.slice A1 ss.length c1, .slice A2 fs.length c2], .int .i64 k] w (TwPost (twA ss (fcA fs k)) 0 w) := by
  have X := (Own.start w).alloc #[.slice A1 ss.length c1, .slice A2 fs.length c2] 25
  have VA := hide (fun W h h' => msvalid_any ⟨ss, fs⟩ ⟨A1, c1, A2, c2⟩ W h h')
  rw [hv] at VA
  have IS := hide (fun W => misface_any ⟨ss, fs⟩ ⟨A1, c1, A2, c2⟩ (k : Int) W)
  rw [show (decide (0 ≤ (k : Int)) && decide ((k : Int) < (Msh.fs ⟨ss, fs⟩).length)) = true by simp; exact hk] at IS
  unfold RetW at VA IS
  have fcr := (vM_face hv k hk).1
  have sm := vM_small hv
  obtain ⟨b, off, e, hbl, hat⟩ := hm.2.2 (by show 0 < fs.length; omega)
  obtain rfl : A2 = some ⟨b, off, none⟩ := e
  have hlen : fs.length ≤ 9223372036854775807 := hm.2.1.1
  have hat' : FceAt w b (off + k * 4) fs[k] := hat k hk
  have eF : fcA fs k = fs[k] := by simp [fcA, hk]
  rw [eF] at fcr ⊢
  have HM := hide hm
  have HT := hide ht
  generalize fs[k] = t at *
  obtain ⟨ta, tb, tc, tk⟩ := t
  obtain ⟨y0, y1, y2, y3⟩ := hat'
  have TN : Hid (∀ W : World, MshSl W ⟨ss, fs⟩ ⟨A1, c1, some ⟨b, off, none⟩, c2⟩ → Calls Tryz.prog 35 #[.agg #[.slice A1 ss.length c1, .slice (some ⟨b, off, none⟩) fs.length c2], .agg #[.int .i64 ta, .int .i64 tb, .int .i64 tc, .int .i64 tk]] W fun e w' => e = .returned (.int .i64 (twA ss ⟨ta, tb, tc, tk⟩)) ∧ Below W.heap.size W w') := hide (fun W h => mtw_any ⟨ss, fs⟩ ⟨A1, c1, some ⟨b, off, none⟩, c2⟩ ta tb tc tk W h sm.1 fcr)
  generalize twA ss ⟨ta, tb, tc, tk⟩ = tw at *
  have k0 : (0 : Int) ≤ (k : Int) := by omega
  have k1 : (k : Int) < (fs.length : Int) := by omega
  have hr := X.r1
  clear hm ht hat eF fcr hv sm
  go_enter Tryz.func17, Tryz.ntmps17
  go_wp2_with fail
  refine (VA.out _ (HM.out.below X.1) (tab_below HT.out X.1)).mono ?_
  rintro e w1 ⟨rfl, hb⟩
  replace X := X.to hb
  clear hb hr VA
  have hr := X.r1
  go_wp2_with fail
  refine (IS.out _).mono ?_
  rintro e w2 ⟨rfl, hb⟩
  have HX := hide (X.to hb)
  clear hb hr IS X
  have hr := HX.out.r1
  go_upto_region 5 with (fail)
  have NE : Nonempty (OwnW w [(w.heap.size, 25, #[.slice A1 ss.length c1, .slice (some ⟨b, off, none⟩) fs.length c2])]) := ⟨⟨_, HX.out⟩⟩
  have C1 := fun y : OwnW w [(w.heap.size, 25, #[.slice A1 ss.length c1, .slice (some ⟨b, off, none⟩) fs.length c2])] => y.own.r1
  have D0 := fun y : OwnW w [(w.heap.size, 25, #[.slice A1 ss.length c1, .slice (some ⟨b, off, none⟩) fs.length c2])] => (y.own.1.cell (p := ⟨b, off + k * 4, none⟩) hbl).trans y0
  have D1 := fun y : OwnW w [(w.heap.size, 25, #[.slice A1 ss.length c1, .slice (some ⟨b, off, none⟩) fs.length c2])] => (y.own.1.cell (p := ⟨b, off + k * 4 + 1, none⟩) hbl).trans y1
  have D2 := fun y : OwnW w [(w.heap.size, 25, #[.slice A1 ss.length c1, .slice (some ⟨b, off, none⟩) fs.length c2])] => (y.own.1.cell (p := ⟨b, off + k * 4 + 2, none⟩) hbl).trans y2
  have D3 := fun y : OwnW w [(w.heap.size, 25, #[.slice A1 ss.length c1, .slice (some ⟨b, off, none⟩) fs.length c2])] => (y.own.1.cell (p := ⟨b, off + k * 4 + 3, none⟩) hbl).trans y3
  have MW := hide (fun y : OwnW w [(w.heap.size, 25, #[.slice A1 ss.length c1, .slice (some ⟨b, off, none⟩) fs.length c2])] => HM.out.below y.own.1)
  refine wp_region_own (w := w) (L := [(w.heap.size, 25, #[.slice A1 ss.length c1, .slice (some ⟨b, off, none⟩) fs.length c2])]) (by kernel_rfl) (by kernel_rfl) HX.out ?_
  repeat (go_big_quiet_step ((rename_i y; with_reducible exact own_call (TN.out _ (MW.out _)))))
  refine wpQuiet_nil ?_
  rintro W ⟨⟨W, HO⟩, rfl⟩
  go_wp2
  go_ret2
  exact ⟨rfl, HO.1⟩
set_option maxRecDepth 100000 in
set_option maxHeartbeats 4000000 in
theorem mTotal_any (ss : List Spt) (fs : List Fce) (A1 A2 : Option Addr) (c1 c2 : Nat) (w : World) (hm : MshSl w ⟨ss, fs⟩ ⟨A1, c1, A2, c2⟩) (ht : Lib.TabIs Tryz.prog w "internal/strconv.uint64pow10" .u64 Lib.pow10Tab) (hv : vM ⟨ss, fs⟩ = true) :
    Calls Tryz.prog 16 #[.agg #[.slice A1 ss.length c1, .slice A2 fs.length c2]] w (TwPost (tot ss fs fs.length) 0 w) := by
  have X := (Own.start w).alloc #[.slice A1 ss.length c1, .slice A2 fs.length c2] 25
  have VA := hide (fun W h h' => msvalid_any ⟨ss, fs⟩ ⟨A1, c1, A2, c2⟩ W h h')
  rw [hv] at VA
  unfold RetW at VA
  have FA := hide (fun i (hi : i < fs.length) => (vM_face hv i hi).1)
  have sm := vM_small hv
  have SM := hide sm
  have TB := hide (tot_bd (n := fs.length) (fun i hi => by
    have h := vM_face hv i hi
    have b : -2251799813685248 ≤ twA ss (fcA fs i) ∧ twA ss (fcA fs i) ≤ 2251799813685248 := trn_bd2 (tri_in sm.1 h.1).1 (tri_in sm.1 h.1).2.1 (tri_in sm.1 h.1).2.2
    have p : 0 < twA ss (fcA fs i) := of_decide_eq_true h.2
    exact ⟨by omega, b.2⟩))
  have HM := hide hm
  have HT := hide ht
  have hlen : fs.length ≤ 4000 := sm.2
  have hr := X.r1
  clear hm ht hv sm
  go_enter Tryz.func16, Tryz.ntmps16
  go_wp2_with fail
  refine (VA.out _ (HM.out.below X.1) (tab_below HT.out X.1)).mono ?_
  rintro e w1 ⟨rfl, hb⟩
  have HX := hide (X.to hb)
  clear hb hr VA X
  have hr := HX.out.r1
  go_wp2
  clear hr
  go_loopw [4, 13] (fun v4 v13 wr => ∃ k : Nat, k ≤ fs.length ∧ v13 = .int .i64 k ∧ v4 = .int .i64 (tot ss fs k) ∧ Hid (Own w wr [(w.heap.size, 25, #[.slice A1 ss.length c1, .slice A2 fs.length c2])])) (fun _ v13 _ => fs.length - (intOf v13).toNat)
  case atStart => exact ⟨0, Nat.zero_le _, rfl, rfl, HX⟩
  case round =>
    obtain ⟨k, hk, rfl, rfl, HX⟩ := hrel
    by_cases hlt : k < fs.length
    · obtain ⟨b, off, e, hbl, hat⟩ := HM.out.2.2 (by show 0 < fs.length; omega)
      obtain rfl : A2 = some ⟨b, off, none⟩ := e
      have hat' : FceAt w b (off + k * 4) fs[k] := hat k hlt
      have eF : fcA fs k = fs[k] := by simp [fcA, hlt]
      have fcr := FA.out k hlt
      have TS : Hid (tot ss fs (k + 1) = tot ss fs k + twA ss fs[k]) := hide (by rw [← eF]; rfl)
      rw [eF] at fcr
      have b1 := TB.out (k + 1) (by omega)
      have b2 := TB.out k (by omega)
      rw [TS.out] at b1
      clear hat eF
      generalize fs[k] = t at *
      obtain ⟨ta, tb, tc, tk⟩ := t
      obtain ⟨y0, y1, y2, y3⟩ := hat'
      replace y0 := (HX.out.1.cell (p := ⟨b, _, none⟩) hbl).trans y0
      replace y1 := (HX.out.1.cell (p := ⟨b, _, none⟩) hbl).trans y1
      replace y2 := (HX.out.1.cell (p := ⟨b, _, none⟩) hbl).trans y2
      replace y3 := (HX.out.1.cell (p := ⟨b, _, none⟩) hbl).trans y3
      have TN : Hid (∀ W : World, MshSl W ⟨ss, fs⟩ ⟨A1, c1, some ⟨b, off, none⟩, c2⟩ → Calls Tryz.prog 35 #[.agg #[.slice A1 ss.length c1, .slice (some ⟨b, off, none⟩) fs.length c2], .agg #[.int .i64 ta, .int .i64 tb, .int .i64 tc, .int .i64 tk]] W fun e w' => e = .returned (.int .i64 (twA ss ⟨ta, tb, tc, tk⟩)) ∧ Below W.heap.size W w') := hide (fun W h => mtw_any ⟨ss, fs⟩ ⟨A1, c1, some ⟨b, off, none⟩, c2⟩ ta tb tc tk W h SM.out.1 fcr)
      generalize twA ss ⟨ta, tb, tc, tk⟩ = tw at *
      generalize tot ss fs k = old at *
      have sw := IntWalk.i64_in (old + tw) (by omega)
      have k0 : (0 : Int) ≤ (k : Int) := by omega
      have k1 : (k : Int) < (fs.length : Int) := by omega
      have kd : decide (k < fs.length) = true := decide_eq_true hlt
      have hr0 := HX.out.r1
      have nbw : b < wr.heap.size := Nat.lt_of_lt_of_le hbl HX.out.1.size
      have X1 := hide (HX.out.alloc #[.int .i64 ta, .int .i64 tb, .int .i64 tc, .int .i64 tk] 65)
      have hr := X1.out.r2
      clear b1 b2 fcr HX
      go_wp2_with fail
      refine (TN.out _ (HM.out.below X1.out.1)).mono ?_
      rintro e w2 ⟨rfl, hb⟩
      have X2 := hide (X1.out.to hb)
      clear hb hr hr0 TN X1 y0 y1 y2 y3
      go_wp2
      go_roundw
      case rel => exact ⟨k + 1, by omega, by go_num, by rw [TS.out], hide X2.out.tail⟩
      case measure => simp [intOf]; omega
    · obtain rfl : k = fs.length := by omega
      have hr := HX.out.r1
      go_wp2
      go_ret2
      exact ⟨rfl, HX.out.1⟩
end Go.Proofs.YtaaadejamjbcbaaGreatDoor

namespace Go.Proofs.YtaaadejamjbcbaaGreatDoor
open Go Go.RowKit

/-- a copy of a row of integers in new memory -/
def ClRow (n : Nat) (h : Nat → Int) (w : World) (e : Ending) (w' : World) : Prop := ∃ g c, e = .returned (.slice (some ⟨g, 0, none⟩) n c) ∧ n ≤ c ∧ w'.ownsRow w.heap.size 3 1 (.slice (some ⟨g, 0, none⟩) n c) n (((List.range n).map h).map (Value.int .i64)) ∧ Below w.heap.size w w'
theorem clRow_any {n : Nat} {h : Nat → Int} {g : Nat} {w : World} (hn : n ≤ 16) (hB : Blk w g 3 (mkRow n fun x => .int .i64 (h x))) : Calls Tryz.prog 18 #[.slice (some ⟨g, 0, none⟩) n n] w (ClRow n h w) := by
  refine (Tryz.slices_Clone_int g 0 n n ((List.range n).map h) w (by simp) (by omega) (fun j hj => ?_)).mono ?_
  · have hj : j < n := by simpa using hj
    rw [Nat.zero_add, hB.cell, mkRow_at n _ hj]
    simp [hj]
  · rintro e w' ⟨v, rfl, h1, h2, hb⟩
    rw [List.take_of_length_le (by simp)] at h1
    rcases h1.2 with ⟨e, _⟩ | ⟨g, cap, cur, rfl, _, _, hc, _⟩
    · exact absurd e h2
    · exact ⟨g, cap, rfl, hc, h1, hb⟩
/-- a row of integers of the call's own: a store, and its cells -/
structure Rw (w W : World) (g n c : Nat) (l : List Int) : Prop where
  row : W.ownsRow w.heap.size 3 1 (.slice (some ⟨g, 0, none⟩) n c) n (l.map (Value.int .i64))
  below : Below w.heap.size w W
section
variable {w W W' : World} {g n c : Nat} {l : List Int}
theorem Rw.len (h : Rw w W g n c l) : l.length = n := by have := h.row.1; simpa using this
theorem Rw.cell (h : Rw w W g n c l) {x : Nat} (hx : x < l.length) : W.cell? ⟨g, x, none⟩ = some (.int .i64 l[x]) ∧ W.frozen? ⟨g, x, none⟩ = false ∧ g < W.heap.size := by
  have hc := h.row.cells (g := g) rfl x (.int .i64 l[x]) (by simp [hx])
  rw [show (⟨g, 0, none⟩ : Addr).add x = ⟨g, x, none⟩ by unfold Addr.add; split <;> simp_all] at hc
  rcases h.row.2 with ⟨e, _⟩ | ⟨g', cap, cur, e, _, hg, _⟩
  · cases e
  · simp only [Value.slice.injEq, Option.some.injEq, Addr.mk.injEq, and_true, true_and] at e
    obtain ⟨rfl, _⟩ := e
    have B : Blk W g 3 cur := hg
    exact ⟨hc, B.frozen x, B.lt⟩
theorem Rw.to (h : Rw w W g n c l) (hb : Below W.heap.size W W') : Rw w W' g n c l := ⟨row_below h.row hb, below_via h.below h.below.size hb⟩
theorem Rw.set (h : Rw w W g n c l) (x : Nat) (u : Int) : Rw w (W.setCell ⟨g, x, none⟩ (.int .i64 u)) g n c (l.set x u) := by
  obtain ⟨s1, _⟩ := h.row.stored x (.int .i64 u)
  refine ⟨by rw [List.map_set]; exact s1, below_set h.below ?_ _⟩
  exact (h.row.lt g rfl).1
theorem Rw.sl (h : Rw w W g n c l) (hl : l.length ≤ 9223372036854775807) (hr : ∀ i (h : i < l.length), -9223372036854775808 ≤ l[i] ∧ l[i] ≤ 9223372036854775807) : IntSl W (some ⟨g, 0, none⟩) l := by
  obtain ⟨A, c', e, hs⟩ := IntSl.of_row h.row hl hr
  injection e with e
  rw [e]; exact hs
end
end Go.Proofs.YtaaadejamjbcbaaGreatDoor
