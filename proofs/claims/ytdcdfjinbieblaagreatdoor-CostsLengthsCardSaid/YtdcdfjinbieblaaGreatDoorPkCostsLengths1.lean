/- Parts of one proof, joined: The bill of the pipes, plain: its amounts are the pipes' metres; its items come in the catalogue's order, each once. Networks at other places, plain; rows of knots, nodes, and links. (Printed by gen_nc.py.). The bill of the pipes, plain: its items one by one; a bill of shorter lengths costs no more; a network without a link. A network in the making: what each append leaves of it. (Printed by gen_nc.py.). -/
import Derived.Test.YtdcdfjinbieblaaGreatDoorPkCostsPipes18
import Derived.Test.YtdcdfjinbieblaaGreatDoorPkCostsPipes22
import Derived.Test.YtdcdfjinbieblaaGreatDoorPkCostsPipes16
import Derived.Test.YtdcdfjinbieblaaGreatDoorPkCostsPipes10
import Derived.Test.YtdcdfjinbieblaaGreatDoorPkCostsPipes15
namespace Go.Proofs.YtdcdfjinbieblaaGreatDoor
open Go Go.RowKit

def sumN (f : Nat → Int) : Nat → Int
  | 0 => 0
  | n + 1 => sumN f n + f n
theorem sumN_add (f g : Nat → Int) : ∀ n, sumN (fun i => f i + g i) n = sumN f n + sumN g n
  | 0 => by simp [sumN]
  | n + 1 => by simp only [sumN, sumN_add f g n]; omega
theorem sumN_zero : ∀ n, sumN (fun _ => 0) n = 0
  | 0 => rfl
  | n + 1 => by simp only [sumN, sumN_zero n]; omega
theorem sumN_one (c : Prop) [Decidable c] (s v : Int) : ∀ n, sumN (fun i => if c ∧ s = (i : Int) then v else 0) n = if c ∧ 0 ≤ s ∧ s < (n : Int) then v else 0
  | 0 => by
    rw [if_neg (fun h => by have := h.2; omega)]; rfl
  | n + 1 => by
    simp only [sumN, sumN_one c s v n]
    by_cases hc : c
    · by_cases h1 : s = (n : Int)
      · rw [if_neg (by omega), if_pos ⟨hc, h1⟩, if_pos ⟨hc, by omega, by omega⟩]; omega
      · rw [if_neg (c := c ∧ s = (n : Int)) (fun h => h1 h.2)]
        by_cases h2 : 0 ≤ s ∧ s < (n : Int)
        · rw [if_pos ⟨hc, h2⟩, if_pos ⟨hc, by omega, by omega⟩]; omega
        · rw [if_neg (fun h => h2 h.2), if_neg (fun h => h2 ⟨h.2.1, by have := h.2.2; push_cast at this; omega⟩)]; omega
    · rw [if_neg (fun h => hc h.1), if_neg (fun h => hc h.1), if_neg (fun h => hc h.1)]; omega
/-- the length of all pipes -/
def totA (ll : List Lnk) : Int := (ll.map fun l => if l.kd = 1 then l.le else 0).sum
theorem totA_nil : totA [] = 0 := rfl
theorem totA_take {ll : List Lnk} {k : Nat} (h : k < ll.length) : totA (ll.take (k + 1)) = totA (ll.take k) + (if ll[k].kd = 1 then ll[k].le else 0) := by
  rw [List.take_succ_eq_append_getElem h]; unfold totA
  simp only [List.map_append, List.sum_append, List.map_cons, List.map_nil, List.sum_cons, List.sum_nil, Int.add_zero]
theorem seIx_lt (sl : List Sec) (s : ByteArray) : -1 ≤ seIx sl s ∧ seIx sl s < (sl.length : Int) := by
  unfold seIx ixB
  split
  · rename_i i h
    have := (List.findIdx?_eq_some_iff_getElem.1 h).1
    omega
  · omega
theorem sumN_lenA (sl : List Sec) : ∀ ll : List Lnk, (∀ l ∈ ll, l.kd = 1 → 0 ≤ seIx sl l.se) → sumN (lenA sl ll) sl.length = totA ll
  | [], _ => by
    have : lenA sl [] = fun _ => 0 := rfl
    rw [this, sumN_zero]; rfl
  | l :: ll, h => by
    have ih := sumN_lenA sl ll (fun x hx => h x (by simp [hx]))
    have e : lenA sl (l :: ll) = fun i => lnA sl i l + lenA sl ll i := by funext i; unfold lenA; simp
    rw [e, sumN_add, ih]
    have e2 : sumN (fun i => lnA sl i l) sl.length = if l.kd = 1 ∧ 0 ≤ seIx sl l.se ∧ seIx sl l.se < (sl.length : Int) then l.le else 0 := sumN_one (l.kd = 1) (seIx sl l.se) l.le sl.length
    rw [e2]
    have e3 : totA (l :: ll) = (if l.kd = 1 then l.le else 0) + totA ll := by unfold totA; simp
    rw [e3]
    by_cases c : l.kd = 1
    · rw [if_pos ⟨c, h l (by simp) c, (seIx_lt sl l.se).2⟩, if_pos c]
    · rw [if_neg (fun x => c x.1), if_neg c]
def amS (l : List Itm) : Int := (l.map (·.am)).sum
theorem amS_append (a b : List Itm) : amS (a ++ b) = amS a + amS b := by unfold amS; simp
theorem amS_take {l : List Itm} {k : Nat} (h : k < l.length) : amS (l.take (k + 1)) = amS (l.take k) + l[k].am := by
  rw [List.take_succ_eq_append_getElem h, amS_append]; simp [amS]
/-- the amounts are the metres of the lengths, each rounded up -/
theorem amS_pipN {sl : List Sec} {f : Nat → Int} (hf : ∀ i, 0 ≤ f i) : ∀ n, n ≤ sl.length → sumN f n ≤ 1000 * amS (pipN sl f n) ∧ 1000 * amS (pipN sl f n) ≤ sumN f n + 999 * ((pipN sl f n).length : Int) ∧ ((pipN sl f n).length = 0 → sumN f n = 0)
  | 0, _ => by simp [pipN, sumN, amS]
  | n + 1, h => by
    obtain ⟨a, b, c⟩ := amS_pipN (sl := sl) hf n (by omega)
    have hn := hf n
    by_cases hp : 0 < f n
    · rw [pipN_yes (show n < sl.length by omega) hp, amS_append, List.length_append]
      simp only [amS, List.map_cons, List.map_nil, List.sum_cons, List.sum_nil, List.length_cons, List.length_nil, sumN] at *
      omega
    · rw [pipN_no (sl := sl) (show n < sl.length by omega) hp]
      simp only [sumN]
      refine ⟨by omega, by omega, fun e => ?_⟩
      have := c e
      omega
/-- where the items of a bill of pipes stand in the catalogue -/
def pipX (f : Nat → Int) : Nat → List Nat
  | 0 => []
  | n + 1 => pipX f n ++ (if 0 < f n then [n] else [])
theorem pipX_mem {f : Nat → Int} : ∀ {n k : Nat}, k ∈ pipX f n → k < n ∧ 0 < f k
  | n + 1, k, h => by
    unfold pipX at h
    rcases List.mem_append.1 h with h | h
    · have := pipX_mem h; exact ⟨by omega, this.2⟩
    · split at h
      · simp at h; subst h; rename_i c; exact ⟨by omega, c⟩
      · simp at h
theorem pipX_sorted {f : Nat → Int} : ∀ n, (pipX f n).Pairwise (· < ·)
  | 0 => by simp [pipX]
  | n + 1 => by
    unfold pipX
    rw [List.pairwise_append]
    refine ⟨pipX_sorted n, by split <;> simp, fun a ha b hb => ?_⟩
    have := (pipX_mem ha).1
    split at hb
    · simp at hb; omega
    · simp at hb
def itmOf (sl : List Sec) (f : Nat → Int) (k : Nat) : Itm := match sl[k]? with | some s => ⟨s.nm, (f k + 999) / 1000, s.pr⟩ | none => ⟨ByteArray.empty, 0, 0⟩
theorem pipN_map {sl : List Sec} {f : Nat → Int} : ∀ n, n ≤ sl.length → pipN sl f n = (pipX f n).map (itmOf sl f)
  | 0, _ => rfl
  | n + 1, h => by
    have ih := pipN_map (sl := sl) (f := f) n (by omega)
    by_cases hp : 0 < f n
    · rw [pipN_yes (show n < sl.length by omega) hp, ih]
      simp [pipX, hp, itmOf, List.getElem?_eq_getElem (show n < sl.length by omega)]
    · rw [pipN_no (sl := sl) (show n < sl.length by omega) hp, ih]
      simp [pipX, hp]
end Go.Proofs.YtdcdfjinbieblaaGreatDoor

namespace Go.Proofs.YtdcdfjinbieblaaGreatDoor
open Go Go.RowKit

def Nod.er (n : Nod) : Nod := ⟨n.nm, n.kd, n.x, n.y, n.iv, n.gr, ⟨n.sh.l, none, 0⟩, n.pro, n.re⟩
def Lnk.er (n : Lnk) : Lnk := ⟨n.nm, n.fr, n.tn, n.kd, n.le, n.up, n.dn, n.se, n.wi, n.he, ⟨n.cu.l, none, 0⟩⟩
theorem ixB_map {α β : Type} (f : α → β) (p : β → Bool) (l : List α) : ixB p (l.map f) = ixB (fun x => p (f x)) l := by
  unfold ixB
  rw [List.findIdx?_map]
  rfl
theorem ndIx_er (nl : List Nod) (s : ByteArray) : ndIx (nl.map Nod.er) s = ndIx nl s := ixB_map _ _ _
theorem lkIx_er (ll : List Lnk) (s : ByteArray) : lkIx (ll.map Lnk.er) s = lkIx ll s := ixB_map _ _ _
theorem nodOk_er (nl : List Nod) (i : Nat) : nodOk (nl.map Nod.er) i = nodOk nl i := by
  unfold nodOk
  rw [List.getElem?_map]
  cases nl[i]? with
  | none => rfl
  | some x =>
    show (nodB x.er && decide (ndIx (nl.map Nod.er) x.er.nm = i)) = _
    rw [ndIx_er]; rfl
theorem lnkOk_er (nl : List Nod) (ll : List Lnk) (i : Nat) : lnkOk (nl.map Nod.er) (ll.map Lnk.er) i = lnkOk nl ll i := by
  unfold lnkOk
  rw [List.getElem?_map]
  cases ll[i]? with
  | none => rfl
  | some x =>
    show (lnkB x.er && decide (lkIx (ll.map Lnk.er) x.er.nm = i) && decide (0 ≤ ndIx (nl.map Nod.er) x.er.tn) && (decide (0 ≤ ndIx (nl.map Nod.er) x.er.fr) && match (nl.map Nod.er)[(ndIx (nl.map Nod.er) x.er.fr).toNat]? with | some y => !decide (y.kd = 3) | none => false)) = _
    rw [lkIx_er, ndIx_er, ndIx_er, List.getElem?_map]
    show _ = (lnkB x && decide (lkIx ll x.nm = i) && decide (0 ≤ ndIx nl x.tn) && (decide (0 ≤ ndIx nl x.fr) && match nl[(ndIx nl x.fr).toNat]? with | some y => !decide (y.kd = 3) | none => false))
    cases h : nl[(ndIx nl x.fr).toNat]? with
    | none =>
      have h2 : nl[(ndIx nl x.er.fr).toNat]? = none := h
      rw [h2]; rfl
    | some y =>
      have h2 : nl[(ndIx nl x.er.fr).toNat]? = some y := h
      rw [h2]; rfl
theorem vNet_er (nl : List Nod) (ll : List Lnk) : vNet (nl.map Nod.er) (ll.map Lnk.er) = vNet nl ll := by
  unfold vNet
  rw [List.length_map, List.length_map]
  congr 1
  congr 1
  · exact congrArg (fun f => (List.range nl.length).all f) (funext fun i => nodOk_er nl i)
  · exact congrArg (fun f => (List.range ll.length).all f) (funext fun i => lnkOk_er nl ll i)
theorem vNet_like {nl nl' : List Nod} {ll ll' : List Lnk} (h1 : nl'.map Nod.er = nl.map Nod.er) (h2 : ll'.map Lnk.er = ll.map Lnk.er) : vNet nl' ll' = vNet nl ll := by
  rw [← vNet_er nl' ll', h1, h2, vNet_er]
theorem lenA_er (sl : List Sec) (ll : List Lnk) (i : Nat) : lenA sl (ll.map Lnk.er) i = lenA sl ll i := by
  unfold lenA; rw [List.map_map]; rfl
theorem lenA_like {sl : List Sec} {ll ll' : List Lnk} (h : ll'.map Lnk.er = ll.map Lnk.er) (i : Nat) : lenA sl ll' i = lenA sl ll i := by
  rw [← lenA_er, h, lenA_er]
theorem pipOK_er (sl : List Sec) (ll : List Lnk) : pipOK sl (ll.map Lnk.er) = pipOK sl ll := by
  unfold pipOK; rw [List.all_map]; rfl
theorem pipOK_like {sl : List Sec} {ll ll' : List Lnk} (h : ll'.map Lnk.er = ll.map Lnk.er) : pipOK sl ll' = pipOK sl ll := by
  rw [← pipOK_er, h, pipOK_er]
/-- rows of structs: cell by cell -/
theorem flat_len {α : Type} (f : α → List Value) (m : Nat) (hf : ∀ x, (f x).length = m) (l : List α) : (l.flatMap f).length = l.length * m := by
  induction l with
  | nil => simp
  | cons a l ih => rw [List.flatMap_cons, List.length_append, hf, ih, List.length_cons, Nat.succ_mul]; omega
theorem flat_at {α : Type} (f : α → List Value) (m : Nat) (hf : ∀ x, (f x).length = m) : ∀ (l : List α) (i : Nat) (hi : i < l.length) (j : Nat), j < m → (l.flatMap f)[i * m + j]? = (f l[i])[j]?
  | [], i, hi, _, _ => absurd hi (by simp)
  | a :: l, 0, _, j, hj => by
    rw [List.flatMap_cons, List.getElem?_append_left (by rw [hf]; omega), Nat.zero_mul, Nat.zero_add]; rfl
  | a :: l, i + 1, hi, j, hj => by
    have ih := flat_at f m hf l i (by simpa using hi) j hj
    rw [List.flatMap_cons, List.getElem?_append_right (by rw [hf, Nat.succ_mul]; omega), hf]
    have e : (i + 1) * m + j - m = i * m + j := by rw [Nat.succ_mul]; omega
    rw [e, ih]
    rfl
theorem flat_split {α : Type} (f : α → List Value) (m : Nat) (hm : 0 < m) (hf : ∀ x, (f x).length = m) (l : List α) {j : Nat} {u : Value} (h : (l.flatMap f)[j]? = some u) : ∃ (i : Nat) (hi : i < l.length) (q : Nat), q < m ∧ j = i * m + q ∧ (f l[i])[q]? = some u := by
  have hj : j < (l.flatMap f).length := (List.getElem?_eq_some_iff.1 h).1
  rw [flat_len f m hf] at hj
  have hi : j / m < l.length := Nat.div_lt_of_lt_mul (by rw [Nat.mul_comm]; exact hj)
  refine ⟨j / m, hi, j % m, Nat.mod_lt _ hm, by rw [Nat.mul_comm]; exact (Nat.div_add_mod j m).symm, ?_⟩
  rw [← flat_at f m hf l (j / m) hi (j % m) (Nat.mod_lt _ hm), show j / m * m + j % m = j by rw [Nat.mul_comm]; exact Nat.div_add_mod j m]
  exact h
abbrev Knt.cs (k : Knt) : List Value := [.int .i64 k.x, .int .i64 k.y]
abbrev Nod.cs (n : Nod) : List Value := [.string n.nm, .int .i64 n.kd, .int .i64 n.x, .int .i64 n.y, .int .i64 n.iv, .int .i64 n.gr, .slice n.sh.A n.sh.l.length n.sh.c, .bool n.pro, .int .i64 n.re]
abbrev Lnk.cs (n : Lnk) : List Value := [.string n.nm, .string n.fr, .string n.tn, .int .i64 n.kd, .int .i64 n.le, .int .i64 n.up, .int .i64 n.dn, .string n.se, .int .i64 n.wi, .int .i64 n.he, .slice n.cu.A n.cu.l.length n.cu.c]
def flatKn (l : List Knt) : List Value := l.flatMap Knt.cs
def flatNd (l : List Nod) : List Value := l.flatMap Nod.cs
def flatLk (l : List Lnk) : List Value := l.flatMap Lnk.cs
theorem flatNd_append (a b : List Nod) : flatNd (a ++ b) = flatNd a ++ flatNd b := by simp [flatNd]
theorem flatLk_append (a b : List Lnk) : flatLk (a ++ b) = flatLk a ++ flatLk b := by simp [flatLk]
theorem flatKn_len (l : List Knt) : (flatKn l).length = l.length * 2 := flat_len _ 2 (fun _ => rfl) l
theorem flatNd_len (l : List Nod) : (flatNd l).length = l.length * 9 := flat_len _ 9 (fun _ => rfl) l
theorem flatLk_len (l : List Lnk) : (flatLk l).length = l.length * 11 := flat_len _ 11 (fun _ => rfl) l
theorem flatKn_one (l : List Knt) : ∀ u ∈ flatKn l, u.oneCell' = true := by
  intro u hu
  obtain ⟨x, _, hx⟩ := List.mem_flatMap.1 hu
  simp only [Knt.cs, List.mem_cons, List.not_mem_nil, or_false] at hx
  rcases hx with rfl | rfl <;> rfl
theorem flatLk_one (l : List Lnk) : ∀ u ∈ flatLk l, u.oneCell' = true := by
  intro u hu
  obtain ⟨x, _, hx⟩ := List.mem_flatMap.1 hu
  simp only [Lnk.cs, List.mem_cons, List.not_mem_nil, or_false] at hx
  rcases hx with rfl | rfl | rfl | rfl | rfl | rfl | rfl | rfl | rfl | rfl | rfl <;> rfl
theorem KnSl.reads {w : World} {A : Option Addr} {l : List Knt} (h : KnSl w A l) : Reads w w.heap.size 2 A l.length (flatKn l) := by
  refine ⟨flatKn_len l, fun h0 => ?_⟩
  obtain ⟨b, off, rfl, hlt, hat⟩ := h.2 h0
  refine ⟨_, rfl, hlt, fun j u hu => ?_⟩
  obtain ⟨i, hi, q, hq, rfl, hc⟩ := flat_split Knt.cs 2 (by omega) (fun _ => rfl) l hu
  have ha := hat i hi
  rw [addN_plain, ← Nat.add_assoc]
  obtain rfl | rfl : q = 0 ∨ q = 1 := by omega
  · exact ha.1.trans hc
  · exact ha.2.trans hc
/-- a row of the call's own, cell by cell -/
theorem row_at {w : World} {base : Nat} {e : TypeId} {size n g c : Nat} {xs : List Value} (h : w.ownsRow base e size (.slice (some ⟨g, 0, none⟩) n c) n xs) : ∀ j u, xs[j]? = some u → w.cell? ⟨g, 0 + j, none⟩ = some u := by
  intro j u hu
  have hc := h.cells (g := g) rfl j u hu
  rwa [addN_plain] at hc
theorem row_sl {w : World} {base : Nat} {e : TypeId} {size n : Nat} {v : Value} {xs : List Value} (h : w.ownsRow base e size v n xs) : (v = .slice none 0 0 ∧ n = 0) ∨ ∃ g c, v = .slice (some ⟨g, 0, none⟩) n c ∧ g < w.heap.size ∧ n ≤ maxLen ∧ n ≤ c := by
  rcases h.2 with ⟨rfl, h0⟩ | ⟨g, cap, cur, rfl, _, hg, hc, hm, _⟩
  · exact .inl ⟨rfl, h0⟩
  · exact .inr ⟨g, cap, rfl, (Array.getElem?_eq_some_iff.1 hg).1, by omega, hc⟩
theorem KnSl.of_row {w : World} {base : Nat} {e : TypeId} {A : Option Addr} {c : Nat} {l : List Knt} (h : w.ownsRow base e 2 (.slice A l.length c) l.length (flatKn l)) : KnSl w A l := by
  rcases row_sl h with ⟨_, h0⟩ | ⟨g, c', e', hg, hm, _⟩
  · exact ⟨by omega, fun h => by omega⟩
  · injection e' with e1 e2 e3
    subst e1; subst e3
    refine ⟨hm, fun _ => ⟨g, 0, rfl, hg, fun i hi => ?_⟩⟩
    have q := fun j (hj : j < 2) => flat_at Knt.cs 2 (fun _ => rfl) l i hi j hj
    exact ⟨by have := row_at h _ _ (q 0 (by omega)); simpa using this, by have := row_at h _ _ (q 1 (by omega)); simpa [Nat.add_assoc] using this⟩
theorem NodSl.of_row {w : World} {base : Nat} {e : TypeId} {A : Option Addr} {c : Nat} {l : List Nod} (h : w.ownsRow base e 9 (.slice A l.length c) l.length (flatNd l)) (hx : ∀ x ∈ l, x.nm.size ≤ maxLen ∧ KnSl w x.sh.A x.sh.l) : NodSl w A l := by
  have hx' : ∀ i (h : i < l.length), l[i].nm.size ≤ maxLen ∧ KnSl w l[i].sh.A l[i].sh.l := fun i hi => hx _ (List.getElem_mem hi)
  rcases row_sl h with ⟨_, h0⟩ | ⟨g, c', e', hg, hm, _⟩
  · exact ⟨⟨by omega, hx'⟩, fun h => by omega⟩
  · injection e' with e1 e2 e3
    subst e1; subst e3
    refine ⟨⟨hm, hx'⟩, fun _ => ⟨g, 0, rfl, hg, fun i hi => ?_⟩⟩
    have q := fun j u (hj : j < 9) (hu : (Nod.cs l[i])[j]? = some u) => (show w.cell? ⟨g, 0 + i * 9 + j, none⟩ = some u by
      rw [Nat.add_assoc]; exact row_at h _ _ ((flat_at Nod.cs 9 (fun _ => rfl) l i hi j hj).trans hu))
    exact ⟨q 0 _ (by omega) rfl, q 1 _ (by omega) rfl, q 2 _ (by omega) rfl, q 3 _ (by omega) rfl, q 4 _ (by omega) rfl, q 5 _ (by omega) rfl, q 6 _ (by omega) rfl, q 7 _ (by omega) rfl, q 8 _ (by omega) rfl⟩
theorem LnkSl.of_row {w : World} {base : Nat} {e : TypeId} {A : Option Addr} {c : Nat} {l : List Lnk} (h : w.ownsRow base e 11 (.slice A l.length c) l.length (flatLk l)) (hx : ∀ x ∈ l, (x.nm.size ≤ maxLen ∧ x.fr.size ≤ maxLen ∧ x.tn.size ≤ maxLen ∧ x.se.size ≤ maxLen) ∧ KnSl w x.cu.A x.cu.l) : LnkSl w A l := by
  have hx' : ∀ i (h : i < l.length), (l[i].nm.size ≤ maxLen ∧ l[i].fr.size ≤ maxLen ∧ l[i].tn.size ≤ maxLen ∧ l[i].se.size ≤ maxLen) ∧ KnSl w l[i].cu.A l[i].cu.l := fun i hi => hx _ (List.getElem_mem hi)
  rcases row_sl h with ⟨_, h0⟩ | ⟨g, c', e', hg, hm, _⟩
  · exact ⟨⟨by omega, hx'⟩, fun h => by omega⟩
  · injection e' with e1 e2 e3
    subst e1; subst e3
    refine ⟨⟨hm, hx'⟩, fun _ => ⟨g, 0, rfl, hg, fun i hi => ?_⟩⟩
    have q := fun j u (hj : j < 11) (hu : (Lnk.cs l[i])[j]? = some u) => (show w.cell? ⟨g, 0 + i * 11 + j, none⟩ = some u by
      rw [Nat.add_assoc]; exact row_at h _ _ ((flat_at Lnk.cs 11 (fun _ => rfl) l i hi j hj).trans hu))
    exact ⟨q 0 _ (by omega) rfl, q 1 _ (by omega) rfl, q 2 _ (by omega) rfl, q 3 _ (by omega) rfl, q 4 _ (by omega) rfl, q 5 _ (by omega) rfl, q 6 _ (by omega) rfl, q 7 _ (by omega) rfl, q 8 _ (by omega) rfl, q 9 _ (by omega) rfl, q 10 _ (by omega) rfl⟩
theorem LnkSl.reads {w : World} {A : Option Addr} {l : List Lnk} (h : LnkSl w A l) : Reads w w.heap.size 11 A l.length (flatLk l) := by
  refine ⟨flatLk_len l, fun h0 => ?_⟩
  obtain ⟨b, off, rfl, hlt, hat⟩ := h.2 h0
  refine ⟨_, rfl, hlt, fun j u hu => ?_⟩
  obtain ⟨i, hi, q, hq, rfl, hc⟩ := flat_split Lnk.cs 11 (by omega) (fun _ => rfl) l hu
  have ha := hat i hi
  rw [addN_plain, ← Nat.add_assoc]
  obtain rfl | rfl | rfl | rfl | rfl | rfl | rfl | rfl | rfl | rfl | rfl : q = 0 ∨ q = 1 ∨ q = 2 ∨ q = 3 ∨ q = 4 ∨ q = 5 ∨ q = 6 ∨ q = 7 ∨ q = 8 ∨ q = 9 ∨ q = 10 := by omega
  · exact ha.c0.trans hc
  · exact ha.c1.trans hc
  · exact ha.c2.trans hc
  · exact ha.c3.trans hc
  · exact ha.c4.trans hc
  · exact ha.c5.trans hc
  · exact ha.c6.trans hc
  · exact ha.c7.trans hc
  · exact ha.c8.trans hc
  · exact ha.c9.trans hc
  · exact ha.ca.trans hc
end Go.Proofs.YtdcdfjinbieblaaGreatDoor

namespace Go.Proofs.YtdcdfjinbieblaaGreatDoor
open Go Go.RowKit

theorem sec_bd {s : Sec} (h : secB s = true) : nameB s.nm.data.toList = true ∧ 0 ≤ s.pr ∧ s.pr ≤ 1073741824 := by
  unfold secB inB at h
  simp only [Bool.and_eq_true, decide_eq_true_eq] at h
  exact ⟨h.1.1.1.1, h.1.1.2⟩
theorem itmOf_at {sl : List Sec} {f : Nat → Int} {k : Nat} (hk : k < sl.length) : itmOf sl f k = ⟨sl[k].nm, (f k + 999) / 1000, sl[k].pr⟩ := by
  simp [itmOf, List.getElem?_eq_getElem hk]
theorem pip_items {sl : List Sec} {f : Nat → Int} (hv : vCat sl = true) (hf : ∀ i, 0 ≤ f i ∧ f i ≤ 6710886400) :
    ∃ X : List Nat, X.length = (pipN sl f sl.length).length ∧ X.Pairwise (· < ·) ∧ ∀ i (h : i < (pipN sl f sl.length).length) (h' : i < X.length), ∃ hj : X[i] < sl.length, seIx sl (pipN sl f sl.length)[i].nm = (X[i] : Int) ∧ (pipN sl f sl.length)[i].pr = sl[X[i]].pr ∧ 1 ≤ (pipN sl f sl.length)[i].am ∧ (pipN sl f sl.length)[i].am ≤ 1073741824 := by
  have e := pipN_map (sl := sl) (f := f) sl.length (Nat.le_refl _)
  refine ⟨pipX f sl.length, by rw [e, List.length_map], pipX_sorted _, fun i h h' => ?_⟩
  have hm := pipX_mem (List.getElem_mem h')
  have e2 : (pipN sl f sl.length)[i] = itmOf sl f (pipX f sl.length)[i] := by
    have : (pipN sl f sl.length)[i]? = ((pipX f sl.length).map (itmOf sl f))[i]? := by rw [e]
    rw [List.getElem?_eq_getElem h, List.getElem?_map, List.getElem?_eq_getElem h'] at this
    simpa using this
  rw [e2, itmOf_at hm.1]
  have hb := hf (pipX f sl.length)[i]
  have := hm.2
  exact ⟨hm.1, (secOk_at hv hm.1).2, rfl, by show 1 ≤ (f _ + 999) / 1000; omega, by show (f _ + 999) / 1000 ≤ _; omega⟩
/-- where the item before the i-th stands -/
def lastX (X : List Nat) : Nat → Int
  | 0 => -1
  | i + 1 => (X.getD i 0 : Nat)
theorem lastX_succ {X : List Nat} {i : Nat} (h : i < X.length) : lastX X (i + 1) = (X[i] : Int) := by
  simp [lastX, List.getD, List.getElem?_eq_getElem h]
theorem lastX_lt {X : List Nat} (hs : X.Pairwise (· < ·)) {i : Nat} (h : i < X.length) : lastX X i < (X[i] : Int) := by
  cases i with
  | zero => show (-1 : Int) < _; omega
  | succ i =>
    rw [lastX_succ (by omega)]
    have := List.pairwise_iff_getElem.1 hs i (i + 1) (by omega) h (by omega)
    omega
theorem pipN_itB {sl : List Sec} {f : Nat → Int} (hv : vCat sl = true) (hf : ∀ i, 0 ≤ f i ∧ f i ≤ 6710886400) : ∀ n, n ≤ sl.length → ∀ x ∈ pipN sl f n, itB x = true
  | 0, _, x, hx => by simp [pipN] at hx
  | n + 1, h, x, hx => by
    have hk : n < sl.length := by omega
    by_cases c : 0 < f n
    · rw [pipN_yes hk c] at hx
      rcases List.mem_append.1 hx with hx | hx
      · exact pipN_itB hv hf n (by omega) x hx
      · obtain rfl := List.mem_singleton.1 hx
        obtain ⟨s1, s2, s3⟩ := sec_bd (secOk_at hv hk).1
        have hb := hf n
        show (nameB sl[n].nm.data.toList && amB ((f n + 999) / 1000) && prcB sl[n].pr) = true
        have e1 : amB ((f n + 999) / 1000) = true := by
          unfold amB; rw [decide_eq_true (by omega), decide_eq_true (by omega)]; rfl
        have e2 : prcB sl[n].pr = true := by
          unfold prcB; rw [decide_eq_true (by omega), decide_eq_true (by omega)]; rfl
        rw [s1, e1, e2]; rfl
    · rw [pipN_no hk c] at hx
      exact pipN_itB hv hf n (by omega) x hx
theorem pipN_vI {sl : List Sec} {f : Nat → Int} (hv : vCat sl = true) (hf : ∀ i, 0 ≤ f i ∧ f i ≤ 6710886400) : vI (pipN sl f sl.length) = true := by
  refine vI_iff.2 ⟨?_, pipN_itB hv hf sl.length (Nat.le_refl _)⟩
  have h1 := pipN_len sl f sl.length
  unfold vCat at hv
  simp only [Bool.and_eq_true, decide_eq_true_eq] at hv
  omega
theorem pipN_cs {sl : List Sec} {f g : Nat → Int} (hv : vCat sl = true) (hg : ∀ i, 0 ≤ g i ∧ g i ≤ f i) : ∀ n, n ≤ sl.length → 0 ≤ csS (pipN sl g n) ∧ csS (pipN sl g n) ≤ csS (pipN sl f n)
  | 0, _ => by simp [pipN, csS]
  | n + 1, h => by
    have hk : n < sl.length := by omega
    have ih := pipN_cs hv hg n (by omega)
    have hb := hg n
    obtain ⟨_, s2, _⟩ := sec_bd (secOk_at hv hk).1
    have one : ∀ (h : Nat → Int), 0 < h n → csS (pipN sl h (n + 1)) = csS (pipN sl h n) + (h n + 999) / 1000 * sl[n].pr := fun h c => by
      rw [pipN_yes hk c, csS_append]; simp [csS]
    by_cases c : 0 < g n
    · have c2 : 0 < f n := by omega
      rw [one g c, one f c2]
      have m1 : (g n + 999) / 1000 * sl[n].pr ≤ (f n + 999) / 1000 * sl[n].pr := Int.mul_le_mul_of_nonneg_right (by omega) s2
      have m2 : 0 ≤ (g n + 999) / 1000 * sl[n].pr := Int.mul_nonneg (by omega) s2
      omega
    · rw [pipN_no hk c]
      by_cases c2 : 0 < f n
      · rw [one f c2]
        have m2 : 0 ≤ (f n + 999) / 1000 * sl[n].pr := Int.mul_nonneg (by omega) s2
        omega
      · rw [pipN_no hk c2]; exact ih
/-- shorter lengths cost no more -/
theorem bill_less {sl : List Sec} {f g : Nat → Int} (hv : vCat sl = true) (hf : ∀ i, f i ≤ 6710886400) (hg : ∀ i, 0 ≤ g i ∧ g i ≤ f i) (h : biE (pipN sl f sl.length) = 0) : biE (pipN sl g sl.length) = 0 ∧ biV (pipN sl g sl.length) ≤ biV (pipN sl f sl.length) := by
  have v1 := pipN_vI (f := f) hv (fun i => ⟨by have := hg i; omega, hf i⟩)
  have v2 := pipN_vI (f := g) hv (fun i => ⟨(hg i).1, by have := hg i; have := hf i; omega⟩)
  obtain ⟨c1, c2⟩ := pipN_cs hv hg sl.length (Nat.le_refl _)
  have h0 := h
  unfold biE at h
  rw [if_pos v1] at h
  have hc : csS (pipN sl f sl.length) ≤ 1152921504606846976 := by
    by_cases q : -1152921504606846976 ≤ csS (pipN sl f sl.length) ∧ csS (pipN sl f sl.length) ≤ 1152921504606846976
    · exact q.2
    · rw [if_neg q] at h; omega
  have e : biE (pipN sl g sl.length) = 0 := by
    unfold biE
    rw [if_pos v2, if_pos (by omega)]
  refine ⟨e, ?_⟩
  unfold biV
  rw [if_pos e, if_pos h0]
  exact c2
theorem pipOK_at {sl : List Sec} {ll : List Lnk} : pipOK sl ll = true ↔ ∀ l ∈ ll, l.kd = 1 → 0 ≤ seIx sl l.se := by
  unfold pipOK
  simp only [List.all_eq_true, Bool.not_eq_true', Bool.and_eq_false_iff, decide_eq_false_iff_not]
  constructor
  · intro h l hl hk
    rcases h l hl with q | q
    · exact absurd hk q
    · omega
  · intro h l hl
    by_cases c : l.kd = 1
    · have := h l hl c; exact .inr (by omega)
    · exact .inl c
theorem pipOK_erase {sl : List Sec} {ll : List Lnk} (h : pipOK sl ll = true) (k : Nat) : pipOK sl (ll.eraseIdx k) = true :=
  pipOK_at.2 fun l hl => pipOK_at.1 h l (List.mem_of_mem_eraseIdx hl)
theorem lenA_app (sl : List Sec) (a b : List Lnk) (i : Nat) : lenA sl (a ++ b) i = lenA sl a i + lenA sl b i := by unfold lenA; simp
theorem lenA_cons (sl : List Sec) (l : Lnk) (m : List Lnk) (i : Nat) : lenA sl (l :: m) i = lnA sl i l + lenA sl m i := by unfold lenA; simp
theorem lenA_erase {sl : List Sec} {ll : List Lnk} (hb : ∀ l ∈ ll, l.kd = 1 → 1 ≤ l.le ∧ l.le ≤ 16777216) {k : Nat} (hk : k < ll.length) (i : Nat) : 0 ≤ lenA sl (ll.eraseIdx k) i ∧ lenA sl (ll.eraseIdx k) i ≤ lenA sl ll i := by
  have h1 := (lenA_bd sl i (ll.eraseIdx k) (fun l hl => hb l (List.mem_of_mem_eraseIdx hl))).1
  refine ⟨h1, ?_⟩
  have e : lenA sl ll i = lenA sl (ll.take k) i + (lnA sl i ll[k] + lenA sl (ll.drop (k + 1)) i) := by
    have q : ll = ll.take k ++ (ll[k] :: ll.drop (k + 1)) := by simp
    have q2 : lenA sl ll i = lenA sl (ll.take k ++ (ll[k] :: ll.drop (k + 1))) i := by rw [← q]
    rw [q2, lenA_app, lenA_cons]
  have e2 : lenA sl (ll.eraseIdx k) i = lenA sl (ll.take k) i + lenA sl (ll.drop (k + 1)) i := by
    rw [List.eraseIdx_eq_take_drop_succ, lenA_app]
  have h2 : 0 ≤ lnA sl i ll[k] := by
    unfold lnA; split
    · rename_i c; have := hb _ (List.getElem_mem hk) c.1; omega
    · omega
  omega
theorem tabs_nod {nl : List Nod} {ll : List Lnk} (h : vNet nl ll = true) : ∀ i (hi : i < nl.length), nl[i].sh.l.length ≤ 100 := fun i hi => by
  unfold vNet at h
  simp only [Bool.and_eq_true, decide_eq_true_eq, List.all_eq_true, List.mem_range] at h
  have q := h.2.1 i hi
  simp only [nodOk, List.getElem?_eq_getElem hi, Bool.and_eq_true] at q
  have b := q.1
  unfold nodB at b
  simp only [Bool.and_eq_true] at b
  have b := b.2
  split at b
  · simp only [Bool.and_eq_true, decide_eq_true_eq] at b; omega
  · split at b
    · simp only [Bool.and_eq_true] at b
      have := b.1.2
      unfold shpB at this
      simp only [Bool.and_eq_true] at this
      exact (vKn_iff.1 this.1.1).1.2
    · cases b
theorem tabs_lnk {nl : List Nod} {ll : List Lnk} (h : vNet nl ll = true) : ∀ i (hi : i < ll.length), ll[i].cu.l.length ≤ 100 := fun i hi => by
  have b := (lnkOk_at h hi).1
  unfold lnkB at b
  simp only [Bool.and_eq_true] at b
  have b := b.2
  split at b
  · simp only [Bool.and_eq_true, decide_eq_true_eq] at b; omega
  · split at b
    · simp only [Bool.and_eq_true, decide_eq_true_eq] at b; omega
    · split at b
      · simp only [Bool.and_eq_true, decide_eq_true_eq] at b; omega
      · split at b
        · simp only [Bool.and_eq_true] at b
          have := b.2
          unfold curB at this
          simp only [Bool.and_eq_true] at this
          exact (vKn_iff.1 this.1.1).1.2
        · cases b
theorem totA_bd {nl : List Nod} {ll : List Lnk} (h : vNet nl ll = true) (k : Nat) : 0 ≤ totA (ll.take k) ∧ totA (ll.take k) ≤ 6710886400 := by
  have hl : ll.length ≤ 400 := by
    unfold vNet at h
    simp only [Bool.and_eq_true, decide_eq_true_eq] at h
    exact h.1.2
  have key : ∀ m : List Lnk, (∀ l ∈ m, l.kd = 1 → 1 ≤ l.le ∧ l.le ≤ 16777216) → 0 ≤ totA m ∧ totA m ≤ 16777216 * (m.length : Int) := by
    intro m
    induction m with
    | nil => intro _; simp [totA]
    | cons l m ih =>
      intro hm
      have i := ih (fun x hx => hm x (List.mem_cons_of_mem _ hx))
      have h1 := hm l (List.mem_cons_self ..)
      have e : totA (l :: m) = (if l.kd = 1 then l.le else 0) + totA m := by unfold totA; simp
      rw [e]
      simp only [List.length_cons]
      split
      · rename_i c; have := h1 c; push_cast; omega
      · push_cast; omega
  have q := key (ll.take k) (fun l hl2 hk => by
    obtain ⟨m, hm, rfl⟩ := List.mem_iff_getElem.1 (List.mem_of_mem_take hl2)
    exact lnk_le (lnkOk_at h hm).1 hk)
  have : (ll.take k).length ≤ 400 := by rw [List.length_take]; omega
  omega
theorem amS_bd {l : List Itm} (h : ∀ x ∈ l, 0 ≤ x.am ∧ x.am ≤ 1073741824) (hn : l.length ≤ 1000) (k : Nat) : 0 ≤ amS (l.take k) ∧ amS (l.take k) ≤ 1073741824000 := by
  have key : ∀ m : List Itm, (∀ x ∈ m, 0 ≤ x.am ∧ x.am ≤ 1073741824) → 0 ≤ amS m ∧ amS m ≤ 1073741824 * (m.length : Int) := by
    intro m
    induction m with
    | nil => intro _; simp [amS]
    | cons a m ih =>
      intro hm
      have i := ih (fun x hx => hm x (List.mem_cons_of_mem _ hx))
      have h1 := hm a (List.mem_cons_self ..)
      have e : amS (a :: m) = a.am + amS m := by unfold amS; simp
      rw [e]; simp only [List.length_cons]; push_cast; omega
  have q := key (l.take k) (fun x hx => h x (List.mem_of_mem_take hx))
  have : (l.take k).length ≤ 1000 := by rw [List.length_take]; omega
  omega
end Go.Proofs.YtdcdfjinbieblaaGreatDoor

namespace Go.Proofs.YtdcdfjinbieblaaGreatDoor
open Go Go.RowKit

theorem knt_info : (Tryz.prog.info? 121).map (fun i => (i.zero, i.size, i.bytes)) = some (some (.agg #[.int .i64 0, .int .i64 0]), 2, 16) := by kernel_rfl
theorem nod_info : (Tryz.prog.info? 71).map (fun i => (i.zero, i.size, i.bytes)) = some (some (.agg #[.string ⟨#[]⟩, .int .i64 0, .int .i64 0, .int .i64 0, .int .i64 0, .int .i64 0, .slice none 0 0, .bool false, .int .i64 0]), 9, 96) := by kernel_rfl
theorem lnk_info : (Tryz.prog.info? 50).map (fun i => (i.zero, i.size, i.bytes)) = some (some (.agg #[.string ⟨#[]⟩, .string ⟨#[]⟩, .string ⟨#[]⟩, .int .i64 0, .int .i64 0, .int .i64 0, .int .i64 0, .string ⟨#[]⟩, .int .i64 0, .int .i64 0, .slice none 0 0]), 11, 136) := by kernel_rfl
/-- a table of the call's own -/
def TabR (w : World) (A : Option Addr) (c : Nat) (l : List Knt) : Prop := w.ownsRow 0 121 2 (.slice A l.length c) l.length (flatKn l)
theorem row_mono0 {w : World} {base : Nat} {e : TypeId} {size : Nat} {v : Value} {n : Nat} {xs : List Value} (h : w.ownsRow base e size v n xs) : w.ownsRow 0 e size v n xs :=
  ⟨h.1, h.2.imp id fun ⟨g, cap, cur, h1, _, h3⟩ => ⟨g, cap, cur, h1, Nat.zero_le _, h3⟩⟩
/-- a network in the making -/
structure Cp (w W : World) (bo : Nat) (R : List (Nat × TypeId × Array Value)) (vN vL : Value) (ns : List Nod) (ls : List Lnk) : Prop where
  own : Own w W ((bo, 25, #[vN, vL]) :: R)
  rn : W.ownsRow w.heap.size 71 9 vN ns.length (flatNd ns)
  rl : W.ownsRow w.heap.size 50 11 vL ls.length (flatLk ls)
  tn : ∀ x ∈ ns, x.nm.size ≤ maxLen ∧ TabR W x.sh.A x.sh.c x.sh.l
  tl : ∀ x ∈ ls, (x.nm.size ≤ maxLen ∧ x.fr.size ≤ maxLen ∧ x.tn.size ≤ maxLen ∧ x.se.size ≤ maxLen) ∧ TabR W x.cu.A x.cu.c x.cu.l
  ty : ∀ x ∈ R, x.2.1 = 25
  ne : ∀ x ∈ R, x.1 ≠ bo
  bo : w.heap.size ≤ bo
section
variable {w W W' : World} {bo : Nat} {R : List (Nat × TypeId × Array Value)} {vN vL v' : Value} {ns : List Nod} {ls : List Lnk}
theorem Cp.to (h : Cp w W bo R vN vL ns ls) (hb : Below W.heap.size W W') : Cp w W' bo R vN vL ns ls :=
  ⟨h.own.to hb, row_below h.rn hb, row_below h.rl hb, fun x hx => ⟨(h.tn x hx).1, row_below (h.tn x hx).2 hb⟩, fun x hx => ⟨(h.tl x hx).1, row_below (h.tl x hx).2 hb⟩, h.ty, h.ne, h.bo⟩
theorem Cp.tys (h : Cp w W bo R vN vL ns ls) {e : TypeId} (he : e ≠ 25) : ∀ x ∈ ((bo, 25, #[vN, vL]) :: R : List (Nat × TypeId × Array Value)), e ≠ x.2.1 := fun x hx => by
  rcases List.mem_cons.1 hx with rfl | hx
  · exact he
  · rw [h.ty x hx]; exact he
/-- one more node -/
theorem Cp.node (h : Cp w W bo R vN vL ns ls) {x : Nod} (hnm : x.nm.size ≤ maxLen) (ht : TabR W x.sh.A x.sh.c x.sh.l) (hown : W'.ownsRow w.heap.size 71 9 v' (ns.length + 1) (flatNd ns ++ x.cs)) (hg : W.grownBy W' vN.ownBlock) :
    Cp w (W'.setCell ⟨bo, 0, none⟩ v') bo R v' vL (ns ++ [x]) ls := by
  have O4 := h.own.grown h.rn hg (h.tys (by decide))
  have B4 : Blk W' bo 25 #[vN, vL] := O4.2 _ (List.mem_cons_self ..)
  have kt : ∀ {A : Option Addr} {c : Nat} {l : List Knt}, TabR W A c l → TabR (W'.setCell ⟨bo, 0, none⟩ v') A c l := fun t => row_set (t.kept hg (rows_ne t h.rn (by decide))) B4 (by decide) 0 v'
  refine ⟨O4.set0 h.bo h.ne 0 v', ?_, row_set (h.rl.kept hg (rows_ne h.rl h.rn (by decide))) B4 (by decide) 0 v', fun y hy => ?_, fun y hy => ⟨(h.tl y hy).1, kt (h.tl y hy).2⟩, h.ty, h.ne, h.bo⟩
  · have q := row_set hown B4 (show (71 : Nat) ≠ 25 by decide) 0 v'
    rw [flatNd_append, List.length_append]
    simpa [flatNd] using q
  · rcases List.mem_append.1 hy with hy | hy
    · exact ⟨(h.tn y hy).1, kt (h.tn y hy).2⟩
    · obtain rfl := List.mem_singleton.1 hy
      exact ⟨hnm, kt ht⟩
/-- one more link -/
theorem Cp.link (h : Cp w W bo R vN vL ns ls) {x : Lnk} (hnm : x.nm.size ≤ maxLen ∧ x.fr.size ≤ maxLen ∧ x.tn.size ≤ maxLen ∧ x.se.size ≤ maxLen) (ht : TabR W x.cu.A x.cu.c x.cu.l) (hown : W'.ownsRow w.heap.size 50 11 v' (ls.length + 1) (flatLk ls ++ x.cs)) (hg : W.grownBy W' vL.ownBlock) :
    Cp w (W'.setCell ⟨bo, 1, none⟩ v') bo R vN v' ns (ls ++ [x]) := by
  have O4 := h.own.grown h.rl hg (h.tys (by decide))
  have B4 : Blk W' bo 25 #[vN, vL] := O4.2 _ (List.mem_cons_self ..)
  have kt : ∀ {A : Option Addr} {c : Nat} {l : List Knt}, TabR W A c l → TabR (W'.setCell ⟨bo, 1, none⟩ v') A c l := fun t => row_set (t.kept hg (rows_ne t h.rl (by decide))) B4 (by decide) 1 v'
  refine ⟨O4.set0 h.bo h.ne 1 v', row_set (h.rn.kept hg (rows_ne h.rn h.rl (by decide))) B4 (by decide) 1 v', ?_, fun y hy => ⟨(h.tn y hy).1, kt (h.tn y hy).2⟩, fun y hy => ?_, h.ty, h.ne, h.bo⟩
  · have q := row_set hown B4 (show (50 : Nat) ≠ 25 by decide) 1 v'
    rw [flatLk_append, List.length_append]
    simpa [flatLk] using q
  · rcases List.mem_append.1 hy with hy | hy
    · exact ⟨(h.tl y hy).1, kt (h.tl y hy).2⟩
    · obtain rfl := List.mem_singleton.1 hy
      exact ⟨hnm, kt ht⟩
/-- a store into the next block of its own -/
theorem Cp.setR {b1 : Nat} {cs : Array Value} {R' : List (Nat × TypeId × Array Value)} (h : Cp w W bo ((b1, 25, cs) :: R') vN vL ns ls) (h1 : w.heap.size ≤ b1) (hn : ∀ x ∈ R', x.1 ≠ b1) (i : Nat) (u : Value) :
    Cp w (W.setCell ⟨b1, i, none⟩ u) bo ((b1, 25, cs.setIfInBounds i u) :: R') vN vL ns ls := by
  have B4 : Blk W b1 25 cs := h.own.2 _ (List.mem_cons_of_mem _ (List.mem_cons_self ..))
  have hbo : bo ≠ b1 := fun e => h.ne _ (List.mem_cons_self ..) e.symm
  refine ⟨(h.own.swap.set0 h1 (fun x hx => ?_) i u).swap, row_set h.rn B4 (by decide) i u, row_set h.rl B4 (by decide) i u, fun y hy => ⟨(h.tn y hy).1, row_set (h.tn y hy).2 B4 (by decide) i u⟩, fun y hy => ⟨(h.tl y hy).1, row_set (h.tl y hy).2 B4 (by decide) i u⟩, fun x hx => ?_, fun x hx => ?_, h.bo⟩
  · rcases List.mem_cons.1 hx with rfl | hx
    · exact hbo
    · exact hn x hx
  · rcases List.mem_cons.1 hx with rfl | hx
    · rfl
    · exact h.ty x (List.mem_cons_of_mem _ hx)
  · rcases List.mem_cons.1 hx with rfl | hx
    · exact fun e => hbo e.symm
    · exact h.ne x (List.mem_cons_of_mem _ hx)
/-- a finished network reads as one -/
theorem Cp.net (h : Cp w W bo R vN vL ns ls) : ∃ A c B c', vN = .slice A ns.length c ∧ vL = .slice B ls.length c' ∧ NodSl W A ns ∧ LnkSl W B ls ∧ ls.length ≤ c' := by
  have h1 := h.rn
  have h2 := h.rl
  have sn : ∃ A c, vN = .slice A ns.length c := by
    rcases row_sl h.rn with ⟨e, h0⟩ | ⟨g, c, e, _⟩
    · exact ⟨none, 0, by rw [e, h0]⟩
    · exact ⟨_, c, e⟩
  have sl : ∃ A c, vL = .slice A ls.length c ∧ ls.length ≤ c := by
    rcases row_sl h.rl with ⟨e, h0⟩ | ⟨g, c, e, _, _, hc⟩
    · exact ⟨none, 0, by rw [e, h0], by omega⟩
    · exact ⟨_, c, e, hc⟩
  obtain ⟨A, c, rfl⟩ := sn
  obtain ⟨B, c', rfl, hcap⟩ := sl
  exact ⟨A, c, B, c', rfl, rfl, NodSl.of_row h1 (fun x hx => ⟨(h.tn x hx).1, KnSl.of_row (h.tn x hx).2⟩), LnkSl.of_row h2 (fun x hx => ⟨(h.tl x hx).1, KnSl.of_row (h.tl x hx).2⟩), hcap⟩
end
end Go.Proofs.YtdcdfjinbieblaaGreatDoor
