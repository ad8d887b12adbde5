/- Parts of one proof, joined: Bills, said of integers: what a bill costs, the merged bill, the difference; costs add up. Present values and the cost of a bill: what Present and Bill return; nothing that was there is turned. The examples of chapter 48: awake returns true; nothing that was there is turned. -/
import Derived.Test.YtdcdfjinbieblaaGreatDoorPkCostsPipes14
import Derived.Test.YtdcdfjinbieblaaGreatDoorPkCostsPipes3
namespace Go.Proofs.YtdcdfjinbieblaaGreatDoor

/-- items of one name and price -/
def same (x y : Itm) : Bool := decide (y.nm = x.nm) && decide (y.pr = x.pr)
theorem same_iff {x y : Itm} : same x y = true ↔ y.nm = x.nm ∧ y.pr = x.pr := by simp [same]
theorem same_refl (x : Itm) : same x x = true := same_iff.2 ⟨rfl, rfl⟩
theorem same_symm {x y : Itm} (h : same x y = true) : same y x = true := same_iff.2 ⟨(same_iff.1 h).1.symm, (same_iff.1 h).2.symm⟩
theorem same_trans {x y z : Itm} (h : same x y = true) (k : same y z = true) : same x z = true := same_iff.2 ⟨(same_iff.1 k).1.trans (same_iff.1 h).1, (same_iff.1 k).2.trans (same_iff.1 h).2⟩
theorem same_congr {x y z : Itm} (h : same x y = true) : same x z = same y z := by
  rw [Bool.eq_iff_iff]
  exact ⟨fun k => same_trans (same_symm h) k, fun k => same_trans h k⟩
def csS : List Itm → Int
  | [] => 0
  | x :: l => x.am * x.pr + csS l
theorem csS_append : ∀ a b : List Itm, csS (a ++ b) = csS a + csS b
  | [], b => by simp [csS]
  | x :: a, b => by simp only [List.cons_append, csS, csS_append a b]; omega
theorem csS_reverse : ∀ a : List Itm, csS a.reverse = csS a
  | [] => rfl
  | x :: a => by rw [List.reverse_cons, csS_append, csS_reverse a]; simp only [csS]; omega
theorem itB_bd {x : Itm} (h : itB x = true) : (-1073741824 ≤ x.am ∧ x.am ≤ 1073741824) ∧ 0 ≤ x.pr ∧ x.pr ≤ 1073741824 := by
  simp only [itB, amB, prcB, Bool.and_eq_true, decide_eq_true_eq] at h
  omega
theorem vI_iff {l : List Itm} : vI l = true ↔ l.length ≤ 1000 ∧ ∀ x ∈ l, itB x = true := by simp [vI]
theorem prod_bd {x : Itm} (h : itB x = true) : -1152921504606846976 ≤ x.am * x.pr ∧ x.am * x.pr ≤ 1152921504606846976 := by
  obtain ⟨h1, h2⟩ := itB_bd h
  have := mul_bd (x := x.am) (y := x.pr) (n := 1073741824) (by omega) (by omega)
  simpa using this
theorem csS_bd : ∀ l : List Itm, (∀ x ∈ l, itB x = true) → -(1152921504606846976 * (l.length : Int)) ≤ csS l ∧ csS l ≤ 1152921504606846976 * (l.length : Int)
  | [], _ => by simp [csS]
  | x :: l, h => by
    have i := csS_bd l fun y hy => h y (List.mem_cons_of_mem _ hy)
    have p := prod_bd (h x (List.mem_cons_self ..))
    simp only [csS, List.length_cons]
    generalize x.am * x.pr = q at *
    omega
/-- what a bill costs, and the error -/
def biE (l : List Itm) : Int := if vI l = true then if -1152921504606846976 ≤ csS l ∧ csS l ≤ 1152921504606846976 then 0 else 5 else 1
def biV (l : List Itm) : Int := if biE l = 0 then csS l else 0
/-- the amount of all items like one -/
def tot (x : Itm) : List Itm → Int
  | [] => 0
  | y :: l => (if same x y = true then y.am else 0) + tot x l
theorem tot_append (x : Itm) : ∀ a b : List Itm, tot x (a ++ b) = tot x a + tot x b
  | [], b => by simp [tot]
  | y :: a, b => by simp only [List.cons_append, tot, tot_append x a b]; omega
theorem tot_congr {x y : Itm} (h : same x y = true) : ∀ l : List Itm, tot x l = tot y l
  | [] => rfl
  | z :: l => by simp only [tot, same_congr h, tot_congr h l]
theorem tot_none {x : Itm} : ∀ {l : List Itm}, l.any (same x) = false → tot x l = 0
  | [], _ => rfl
  | y :: l, h => by
    simp only [List.any_cons, Bool.or_eq_false_iff] at h
    simp [tot, h.1, tot_none h.2]
theorem tot_bd (x : Itm) : ∀ l : List Itm, (∀ y ∈ l, itB y = true) → -(1073741824 * (l.length : Int)) ≤ tot x l ∧ tot x l ≤ 1073741824 * (l.length : Int)
  | [], _ => by simp [tot]
  | y :: l, h => by
    have i := tot_bd x l fun y hy => h y (List.mem_cons_of_mem _ hy)
    obtain ⟨p, _⟩ := itB_bd (h y (List.mem_cons_self ..))
    simp only [tot, List.length_cons]
    split <;> omega
/-- one item more in the sums -/
def addM (s : List Itm) (x : Itm) : List Itm :=
  match s.findIdx? (same x) with
  | some k => s.set k ⟨(s.getD k x).nm, (s.getD k x).am + x.am, (s.getD k x).pr⟩
  | none => s ++ [x]
def mgS (l : List Itm) : List Itm := l.foldl addM []
theorem mgS_snoc (l : List Itm) (x : Itm) : mgS (l ++ [x]) = addM (mgS l) x := by simp [mgS]
theorem snoc_ind {P : List Itm → Prop} (h0 : P []) (h1 : ∀ l x, P l → P (l ++ [x])) (l : List Itm) : P l := by
  have : ∀ n (l : List Itm), l.length = n → P l := by
    intro n
    induction n with
    | zero => intro l hl; rw [List.length_eq_zero_iff.1 hl]; exact h0
    | succ n ih =>
      intro l hl
      have hne : l ≠ [] := by intro e; rw [e] at hl; simp at hl
      rw [← List.dropLast_concat_getLast hne]
      exact h1 _ _ (ih _ (by rw [List.length_dropLast]; omega))
  exact this _ l rfl
/-- the items at which a name and price occur first -/
def fsM (l : List Itm) : List Itm := l.foldl (fun s x => if s.any (same x) = true then s else s ++ [x]) []
theorem fsM_snoc (l : List Itm) (x : Itm) : fsM (l ++ [x]) = if (fsM l).any (same x) = true then fsM l else fsM l ++ [x] := by simp [fsM]
theorem any_fsM (x : Itm) (l : List Itm) : (fsM l).any (same x) = l.any (same x) := by
  induction l using snoc_ind with
  | h0 => rfl
  | h1 l y ih =>
    rw [fsM_snoc]
    by_cases h : (fsM l).any (same y) = true
    · rw [if_pos h, List.any_append, ih]
      simp only [List.any_cons, List.any_nil, Bool.or_false]
      by_cases k : same x y = true
      · obtain ⟨z, hz, hs⟩ := List.any_eq_true.1 h
        have : l.any (same x) = true := by
          rw [← ih]
          exact List.any_eq_true.2 ⟨z, hz, same_trans k hs⟩
        simp [this]
      · simp [k]
    · rw [if_neg h, List.any_append, List.any_append, ih]
def wth (l : List Itm) (x : Itm) : Itm := ⟨x.nm, tot x l, x.pr⟩
theorem same_wth (x : Itm) (l : List Itm) (y : Itm) : same x (wth l y) = same x y := rfl
def ndM : List Itm → Prop
  | [] => True
  | x :: l => l.any (same x) = false ∧ ndM l
theorem ndM_snoc : ∀ (l : List Itm) (x : Itm), ndM l → l.any (same x) = false → ndM (l ++ [x])
  | [], x, _, _ => ⟨rfl, trivial⟩
  | y :: l, x, h, k => by
    simp only [List.any_cons, Bool.or_eq_false_iff] at k
    refine ⟨?_, ndM_snoc l x h.2 k.2⟩
    show (l ++ [x]).any (same y) = false
    rw [List.any_append, h.1]
    have : same y x = false := by
      cases e : same y x with
      | false => rfl
      | true => rw [same_symm e] at k; simp at k
    simp [this]
theorem fsM_nd (l : List Itm) : ndM (fsM l) := by
  induction l using snoc_ind with
  | h0 => exact trivial
  | h1 l x ih =>
    rw [fsM_snoc]
    by_cases h : (fsM l).any (same x) = true
    · rw [if_pos h]; exact ih
    · rw [if_neg h]; exact ndM_snoc _ _ ih (by simpa using h)
theorem ndM_at : ∀ {s : List Itm} (_ : ndM s) {i j : Nat} (hi : i < s.length) (hj : j < s.length), same s[i] s[j] = true → i = j
  | [], _, _, _, hi, _, _ => by simp at hi
  | x :: l, h, i, j, hi, hj, hs => by
    have no : ∀ k (hk : k < l.length), same x l[k] = false := fun k hk => by
      have := h.1
      rw [List.any_eq_false] at this
      simpa using this _ (List.getElem_mem hk)
    rcases i with _ | i <;> rcases j with _ | j
    · rfl
    · simp only [List.getElem_cons_zero, List.getElem_cons_succ] at hs
      rw [no j (by simpa using hj)] at hs; cases hs
    · simp only [List.getElem_cons_zero, List.getElem_cons_succ] at hs
      have := same_symm hs
      rw [no i (by simpa using hi)] at this; cases this
    · simp only [List.getElem_cons_succ] at hs
      rw [ndM_at h.2 (by simpa using hi) (by simpa using hj) hs]
/-- the sums are the first items with the amounts of all that are like them -/
theorem mgS_eq (l : List Itm) : mgS l = (fsM l).map (wth l) := by
  induction l using snoc_ind with
  | h0 => rfl
  | h1 l x ih =>
    rw [mgS_snoc, fsM_snoc, ih]
    unfold addM
    cases e : ((fsM l).map (wth l)).findIdx? (same x) with
    | none =>
      rw [List.findIdx?_eq_none_iff] at e
      have h : (fsM l).any (same x) = false := by
        rw [List.any_eq_false]
        intro y hy
        have := e (wth l y) (List.mem_map_of_mem hy)
        rw [same_wth] at this
        simp [this]
      rw [if_neg (by simp [h]), List.map_append]
      have e1 : (fsM l).map (wth l) = (fsM l).map (wth (l ++ [x])) := by
        refine List.map_congr_left fun y hy => ?_
        unfold wth
        rw [tot_append]
        have : same y x = false := by
          cases k : same y x with
          | false => rfl
          | true =>
            rw [List.any_eq_false] at h
            exact absurd (same_symm k) (h y hy)
        simp [tot, this]
      have e2 : wth (l ++ [x]) x = x := by
        unfold wth
        rw [tot_append, tot_none (by rw [← any_fsM]; exact h)]
        simp [tot, same_refl]
      rw [← e1, List.map_cons, List.map_nil, e2]
    | some k =>
      rw [List.findIdx?_eq_some_iff_getElem] at e
      obtain ⟨hk, hs, hno⟩ := e
      have hk' : k < (fsM l).length := by simpa using hk
      rw [List.getElem_map, same_wth] at hs
      have h : (fsM l).any (same x) = true := List.any_eq_true.2 ⟨_, List.getElem_mem hk', hs⟩
      rw [if_pos h]
      show ((fsM l).map (wth l)).set k _ = _
      refine List.ext_getElem (by simp) fun i h1 h2 => ?_
      have hi : i < (fsM l).length := by simpa using h2
      rw [List.getElem_set]
      by_cases c : k = i
      · subst c
        simp only [if_true, List.getElem_map, List.getD_eq_getElem?_getD, List.getElem?_map, List.getElem?_eq_getElem hk', Option.map_some, Option.getD_some]
        unfold wth
        simp only [tot_append, tot, Int.add_zero, if_pos (same_symm hs)]
      · simp only [if_neg c, List.getElem_map]
        unfold wth
        have : same (fsM l)[i] x = false := by
          cases q : same (fsM l)[i] x with
          | false => rfl
          | true => exact absurd (ndM_at (fsM_nd l) hk' hi (same_trans (same_symm hs) (same_symm q))) c
        simp only [tot_append, tot, this]
        simp
def outB (x : Itm) : Bool := !amB x.am
/-- the merged bill, and the error -/
def mgO (l : List Itm) : List Itm := (mgS l).filter fun x => decide (x.am ≠ 0)
def mgE (l : List Itm) : Int := if (mgS l).any outB = true then 5 else 0
def mgL (l : List Itm) : List Itm := if mgE l = 0 then mgO l else []
theorem ndM_map {f : Itm → Itm} (hf : ∀ x y, same (f x) (f y) = same x y) : ∀ {l : List Itm}, ndM l → ndM (l.map f)
  | [], _ => trivial
  | x :: l, h => by
    refine ⟨?_, ndM_map hf h.2⟩
    rw [List.any_map]
    have : (same (f x) ∘ f) = same x := by funext y; exact hf x y
    rw [this]; exact h.1
theorem ndM_filter {p : Itm → Bool} : ∀ {l : List Itm}, ndM l → ndM (l.filter p)
  | [], _ => trivial
  | x :: l, h => by
    rw [List.filter_cons]
    split
    · refine ⟨?_, ndM_filter h.2⟩
      rw [List.any_eq_false]
      intro y hy
      have := h.1
      rw [List.any_eq_false] at this
      exact this y (List.mem_filter.1 hy).1
    · exact ndM_filter h.2
theorem mgS_nd (l : List Itm) : ndM (mgS l) := by rw [mgS_eq]; exact ndM_map (f := wth l) (fun _ _ => rfl) (fsM_nd l)
theorem mgS_mem {l : List Itm} {x : Itm} (h : x ∈ mgS l) : x.am = tot x l ∧ ∃ y ∈ l, same y x = true := by
  rw [mgS_eq] at h
  obtain ⟨y, hy, rfl⟩ := List.mem_map.1 h
  refine ⟨(tot_congr (show same (wth l y) y = true from same_iff.2 ⟨rfl, rfl⟩) l).symm, ?_⟩
  have : (fsM l).any (same y) = true := List.any_eq_true.2 ⟨y, hy, same_refl y⟩
  rw [any_fsM] at this
  obtain ⟨z, hz, hs⟩ := List.any_eq_true.1 this
  exact ⟨z, hz, same_symm hs⟩
theorem mgS_has {l : List Itm} {y : Itm} (h : y ∈ l) : ∃ x ∈ mgS l, same y x = true ∧ x.am = tot y l := by
  have : l.any (same y) = true := List.any_eq_true.2 ⟨y, h, same_refl y⟩
  rw [← any_fsM] at this
  obtain ⟨z, hz, hs⟩ := List.any_eq_true.1 this
  exact ⟨wth l z, by rw [mgS_eq]; exact List.mem_map_of_mem hz, hs, (tot_congr hs l).symm⟩
theorem fsM_len (l : List Itm) : (fsM l).length ≤ l.length := by
  induction l using snoc_ind with
  | h0 => simp [fsM]
  | h1 l x ih =>
    rw [fsM_snoc, List.length_append, List.length_singleton]
    split
    · omega
    · simp; omega
theorem mgS_len (l : List Itm) : (mgS l).length ≤ l.length := by rw [mgS_eq, List.length_map]; exact fsM_len l
theorem mgO_len (l : List Itm) : (mgO l).length ≤ l.length := Nat.le_trans (List.length_filter_le _ _) (mgS_len l)
/-- sums of costs -/
theorem csS_set : ∀ (s : List Itm) (k : Nat) (h : k < s.length) (z : Itm), csS (s.set k z) = csS s - s[k].am * s[k].pr + z.am * z.pr
  | [], _, h, _ => by simp at h
  | x :: s, 0, _, z => by simp only [List.set_cons_zero, csS, List.getElem_cons_zero]; omega
  | x :: s, k + 1, h, z => by
    simp only [List.set_cons_succ, csS, List.getElem_cons_succ, csS_set s k (by simpa using h) z]; omega
theorem csS_addM (s : List Itm) (x : Itm) : csS (addM s x) = csS s + x.am * x.pr := by
  unfold addM
  cases e : s.findIdx? (same x) with
  | none => rw [csS_append]; simp [csS]
  | some k =>
    rw [List.findIdx?_eq_some_iff_getElem] at e
    obtain ⟨hk, hs, _⟩ := e
    have := (same_iff.1 hs).2
    show csS (s.set k _) = _
    rw [csS_set s k hk]
    simp only [List.getD_eq_getElem?_getD, List.getElem?_eq_getElem hk, Option.getD_some]
    rw [Int.add_mul, this]; omega
theorem csS_mgS (l : List Itm) : csS (mgS l) = csS l := by
  induction l using snoc_ind with
  | h0 => rfl
  | h1 l x ih => rw [mgS_snoc, csS_addM, ih, csS_append]; simp [csS]
theorem csS_filter : ∀ l : List Itm, csS (l.filter fun x => decide (x.am ≠ 0)) = csS l
  | [] => rfl
  | x :: l => by
    rw [List.filter_cons]
    split
    · simp only [csS, csS_filter l]
    · rename_i h
      have : x.am = 0 := by simpa using h
      rw [csS_filter l]; simp [csS, this]
theorem csS_mgO (l : List Itm) : csS (mgO l) = csS l := by unfold mgO; rw [csS_filter, csS_mgS]
theorem addM_new {s : List Itm} {x : Itm} (h : s.any (same x) = false) : addM s x = s ++ [x] := by
  unfold addM
  have : s.findIdx? (same x) = none := by
    rw [List.findIdx?_eq_none_iff]
    rw [List.any_eq_false] at h
    intro y hy
    simpa using h y hy
  rw [this]
theorem ndM_app : ∀ {a b : List Itm}, ndM (a ++ b) → ndM a ∧ ndM b ∧ ∀ x ∈ b, a.any (same x) = false
  | [], _, h => ⟨trivial, h, fun _ _ => rfl⟩
  | y :: a, b, h => by
    obtain ⟨h1, h2⟩ := h
    obtain ⟨k1, k2, k3⟩ := ndM_app h2
    have h1 : (a ++ b).any (same y) = false := h1
    rw [List.any_append, Bool.or_eq_false_iff] at h1
    refine ⟨⟨h1.1, k1⟩, k2, fun x hx => ?_⟩
    rw [List.any_cons, k3 x hx, Bool.or_false]
    cases e : same x y with
    | false => rfl
    | true =>
      have := h1.2
      rw [List.any_eq_false] at this
      exact absurd (same_symm e) (this x hx)
theorem mgS_id (l : List Itm) (h : ndM l) : mgS l = l := by
  induction l using snoc_ind with
  | h0 => rfl
  | h1 l x ih =>
    obtain ⟨h1, _, h3⟩ := ndM_app h
    rw [mgS_snoc, ih h1, addM_new (h3 x (List.mem_singleton.2 rfl))]
theorem mgO_id (l : List Itm) : mgO (mgO l) = mgO l := by
  have e : mgS (mgO l) = mgO l := mgS_id _ (ndM_filter (mgS_nd l))
  have e2 : mgO (mgO l) = (mgS (mgO l)).filter fun x => decide (x.am ≠ 0) := rfl
  rw [e2, e]
  unfold mgO
  rw [List.filter_filter]
  congr 1
  funext x; simp
theorem mgE_cases (l : List Itm) : mgE l = 0 ∨ mgE l = 5 := by unfold mgE; split <;> simp
theorem mgE_ok {l : List Itm} (h : mgE l = 0) {x : Itm} (hx : x ∈ mgS l) : -1073741824 ≤ x.am ∧ x.am ≤ 1073741824 := by
  unfold mgE at h
  by_cases k : (mgS l).any outB = true
  · rw [if_pos k] at h; cases h
  · have : outB x = false := by
      have k : (mgS l).any outB = false := by simpa using k
      rw [List.any_eq_false] at k
      simpa using k x hx
    simpa [outB, amB] using this
theorem mgO_it {l : List Itm} (hv : ∀ x ∈ l, itB x = true) (h : mgE l = 0) : ∀ x ∈ mgO l, itB x = true := by
  intro x hx
  have hx' := (List.mem_filter.1 hx).1
  have b := mgE_ok h hx'
  obtain ⟨_, y, hy, hs⟩ := mgS_mem hx'
  have q := hv y hy
  obtain ⟨e1, e2⟩ := same_iff.1 hs
  simp only [itB, amB, prcB, Bool.and_eq_true, decide_eq_true_eq] at q ⊢
  rw [e1, e2]
  exact ⟨⟨q.1.1, b⟩, q.2⟩
theorem mgO_v {l : List Itm} (hv : vI l = true) (h : mgE l = 0) : vI (mgO l) = true := by
  obtain ⟨h1, h2⟩ := vI_iff.1 hv
  exact vI_iff.2 ⟨Nat.le_trans (mgO_len l) h1, mgO_it h2 h⟩
theorem mgE_again {l : List Itm} (h : mgE l = 0) : mgE (mgO l) = 0 := by
  have e : mgS (mgO l) = mgO l := mgS_id _ (ndM_filter (mgS_nd l))
  unfold mgE
  rw [e, if_neg]
  intro k
  obtain ⟨x, hx, ho⟩ := List.any_eq_true.1 k
  have b := mgE_ok h (List.mem_filter.1 hx).1
  simp [outB, amB] at ho
  omega
/-- the opposite bill -/
def oppI (x : Itm) : Itm := ⟨x.nm, -x.am, x.pr⟩
def oppL (l : List Itm) : List Itm := l.map oppI
theorem csS_opp : ∀ l : List Itm, csS (oppL l) = -csS l
  | [] => rfl
  | x :: l => by
    have := csS_opp l
    simp only [oppL, List.map_cons, csS, oppI] at this ⊢
    rw [this, Int.neg_mul]; omega
theorem tot_opp (x : Itm) : ∀ l : List Itm, tot x (oppL l) = -tot x l
  | [] => rfl
  | y :: l => by
    have i := tot_opp x l
    simp only [oppL, List.map_cons, tot] at i ⊢
    rw [i]
    have : same x (oppI y) = same x y := rfl
    rw [this]
    have e : (oppI y).am = -y.am := rfl
    rw [e]
    split <;> omega
theorem mgO_self (a : List Itm) : mgO (a ++ oppL a) = [] := by
  unfold mgO
  rw [List.filter_eq_nil_iff]
  intro x hx
  have := (mgS_mem hx).1
  rw [tot_append, tot_opp] at this
  have e : x.am = 0 := by omega
  rw [e]; simp
theorem itB_opp {x : Itm} (h : itB x = true) : itB (oppI x) = true := by
  obtain ⟨⟨h1, h2⟩, _⟩ := itB_bd h
  have e : amB (oppI x).am = true := by
    show (decide (-1073741824 ≤ -x.am) && decide (-x.am ≤ 1073741824)) = true
    rw [decide_eq_true (by omega), decide_eq_true (by omega)]; rfl
  unfold itB at h ⊢
  rw [e]
  rw [Bool.and_eq_true, Bool.and_eq_true] at h
  rw [show nameB (oppI x).nm.data.toList = true from h.1.1, show prcB (oppI x).pr = true from h.2]; rfl
/-- the reference's merged bill: the first items, one by one -/
def itA (l : List Itm) (i : Nat) : Itm := l.getD i ⟨⟨#[]⟩, 0, 0⟩
theorem itA_at {l : List Itm} {i : Nat} (h : i < l.length) : itA l i = l[i] := by simp [itA, h]
def fstB (l : List Itm) (i : Nat) : Bool := !((l.take i).any (same (itA l i)))
def rfL (l : List Itm) : Nat → List Itm
  | 0 => []
  | i + 1 => rfL l i ++ if (fstB l i && decide (tot (itA l i) l ≠ 0)) = true then [wth l (itA l i)] else []
theorem rfL_eq (l : List Itm) : ∀ i, i ≤ l.length → rfL l i = ((fsM (l.take i)).map (wth l)).filter fun x => decide (x.am ≠ 0)
  | 0, _ => rfl
  | i + 1, h => by
    have e : l.take (i + 1) = l.take i ++ [itA l i] := by rw [List.take_succ_eq_append_getElem (by omega), itA_at (by omega)]
    rw [e, fsM_snoc]
    simp only [rfL, rfL_eq l i (by omega), any_fsM]
    by_cases c : (l.take i).any (same (itA l i)) = true
    · have f : fstB l i = false := by unfold fstB; rw [c]; rfl
      rw [if_pos c, f]; simp
    · rw [if_neg c, List.map_append, List.filter_append, List.map_cons, List.map_nil]
      have f : fstB l i = true := by unfold fstB; simp [c]
      congr 1
      rw [f, List.filter_cons]
      by_cases z : tot (itA l i) l = 0 <;> simp [wth, z]
theorem rfL_all (l : List Itm) : rfL l l.length = mgO l := by rw [rfL_eq l _ (Nat.le_refl _), List.take_length, mgO, mgS_eq]
theorem rfE_yes {l : List Itm} {i : Nat} (hi : i < l.length) (h : amB (tot (itA l i) l) = false) : mgE l = 5 := by
  unfold mgE
  rw [if_pos]
  rw [itA_at hi] at h
  obtain ⟨x, hx, _, e⟩ := mgS_has (List.getElem_mem hi)
  exact List.any_eq_true.2 ⟨x, hx, by unfold outB; rw [e, h]; rfl⟩
theorem rfE_no {l : List Itm} (h : ∀ i, i < l.length → amB (tot (itA l i) l) = true) : mgE l = 0 := by
  unfold mgE
  rw [if_neg]
  intro k
  obtain ⟨x, hx, ho⟩ := List.any_eq_true.1 k
  obtain ⟨e, y, hy, hs⟩ := mgS_mem hx
  obtain ⟨i, hi, rfl⟩ := List.mem_iff_getElem.1 hy
  have := h i hi
  rw [itA_at hi, tot_congr hs] at this
  unfold outB at ho
  rw [e, this] at ho
  cases ho
/-- amounts of the items like one among the first ones -/
def totN (l : List Itm) (x : Itm) (k : Nat) : Int := tot x (l.take k)
theorem totN_zero (l : List Itm) (x : Itm) : totN l x 0 = 0 := rfl
theorem totN_succ {l : List Itm} (x : Itm) {k : Nat} (h : k < l.length) : totN l x (k + 1) = totN l x k + if same x l[k] = true then l[k].am else 0 := by
  unfold totN
  rw [List.take_succ_eq_append_getElem h, tot_append]
  simp [tot]
theorem totN_all (l : List Itm) (x : Itm) : totN l x l.length = tot x l := by unfold totN; rw [List.take_length]
/-- among the first k items none before the i-th one is like it -/
def fst2 (l : List Itm) (i k : Nat) : Bool := !((l.take (min i k)).any (same (itA l i)))
theorem fst2_zero (l : List Itm) (i : Nat) : fst2 l i 0 = true := by simp [fst2]
theorem fst2_succ {l : List Itm} {i k : Nat} (h : k < l.length) : fst2 l i (k + 1) = (fst2 l i k && (!same (itA l i) l[k] || decide (i ≤ k))) := by
  unfold fst2
  by_cases c : i ≤ k
  · rw [show min i (k + 1) = i by omega, show min i k = i by omega]; simp [c]
  · rw [show min i (k + 1) = k + 1 by omega, show min i k = k by omega, List.take_succ_eq_append_getElem h, List.any_append]
    simp [c]
theorem fst2_all {l : List Itm} {i : Nat} (h : i < l.length) : fst2 l i l.length = fstB l i := by unfold fst2 fstB; rw [show min i l.length = i by omega]
end Go.Proofs.YtdcdfjinbieblaaGreatDoor

namespace Go.Proofs.YtdcdfjinbieblaaGreatDoor
open Go Go.RowKit

set_option maxHeartbeats 4000000 in
theorem copresent_no (c n d y : Int) (w : World) (h : prB c n d y = false) : Calls Tryz.prog 9 #[.int .i64 c, .int .i64 n, .int .i64 d, .int .i64 y] w (ErrP 2 w) := by
  have B1 := hide (fun W => cobetween_any c 0 1125899906842624 W)
  have B2 := hide (fun W => cobetween_any n 0 10000 W)
  have B3 := hide (fun W => cobetween_any d 1 10000 W)
  have B4 := hide (fun W => cobetween_any y 0 200 W)
  unfold prB at h
  have X := (Own.start w).alloc #[.int .i64 0, .int .i64 0] 36
  have hr := X.r1
  have XB := hide X.1
  generalize (decide (0 ≤ c) && decide (c ≤ 1125899906842624)) = b1 at *
  generalize (decide (0 ≤ n) && decide (n ≤ 10000)) = b2 at *
  generalize (decide (1 ≤ d) && decide (d ≤ 10000)) = b3 at *
  generalize (decide (0 ≤ y) && decide (y ≤ 200)) = b4 at *
  have ways : b1 = false ∨ (b1 = true ∧ b2 = false) ∨ (b1 = true ∧ b2 = true ∧ b3 = false) ∨ (b1 = true ∧ b2 = true ∧ b3 = true ∧ b4 = false) := by cases b1 <;> cases b2 <;> cases b3 <;> cases b4 <;> simp at h ⊢
  clear h X
  rcases ways with rfl | ⟨rfl, rfl⟩ | ⟨rfl, rfl, rfl⟩ | ⟨rfl, rfl, rfl, rfl⟩
  all_goals
    go_enter Tryz.func9, Tryz.ntmps9
    go_wp2_with fail
    refine (B1.out _).mono ?_
    rintro e w' ⟨rfl, rfl⟩
    first
      | (go_wp2_with fail
         refine (B2.out _).mono ?_
         rintro e w' ⟨rfl, rfl⟩)
      | skip
    first
      | (go_wp2_with fail
         refine (B3.out _).mono ?_
         rintro e w' ⟨rfl, rfl⟩)
      | skip
    first
      | (go_wp2_with fail
         refine (B4.out _).mono ?_
         rintro e w' ⟨rfl, rfl⟩)
      | skip
    go_wp2
    exact bodyPost_ret (v := .tuple #[.agg #[.int .i64 0, .int .i64 0], .int .i64 2]) (by simp [results, Tryz.results9, hr, go_sem]) rfl ⟨rfl, by have HX := XB.out; have hz := HX.size; go_grown⟩
theorem scP {x n d : Int} (h : 0 ≤ x ∧ x ≤ 1125899906842624) (hn : 0 ≤ n ∧ n ≤ 10000) (hd : 1 ≤ d ∧ d ≤ 10000) : scE x d (d + n) = 0 ∧ scLo x d (d + n) = dn (x * d) (d + n) ∧ scHi x d (d + n) = up (x * d) (d + n) := by
  have s1 := dn_step (n := n) (d := d) (x := x) hn.1 hd.1 h.1
  have s2 := up_step (n := n) (d := d) (x := x) hn.1 hd.1 h.1
  have b1 : i64B (dn (x * d) (d + n)) = true := i64B_iff.2 (by omega)
  have b2 : i64B (up (x * d) (d + n)) = true := i64B_iff.2 (by omega)
  refine ⟨?_, ?_, ?_⟩
  · unfold scE; rw [if_neg (by omega), if_pos ⟨b1, b2⟩]
  · unfold scLo; rw [if_pos ⟨by omega, b1, b2⟩]
  · unfold scHi; rw [if_pos ⟨by omega, b1, b2⟩]
set_option maxRecDepth 100000 in
set_option maxHeartbeats 4000000 in
theorem copresent_ok (c n d : Int) (y : Nat) (w : World) (hc : 0 ≤ c ∧ c ≤ 1125899906842624) (hn : 0 ≤ n ∧ n ≤ 10000) (hd : 1 ≤ d ∧ d ≤ 10000) (hy : y ≤ 200) : Calls Tryz.prog 9 #[.int .i64 c, .int .i64 n, .int .i64 d, .int .i64 (y : Int)] w (RetW (.tuple #[.agg #[.int .i64 (prL n d y c), .int .i64 (prU n d y c)], .int .i64 0]) w) := by
  have B1 := hide (fun W => cobetween_any c 0 1125899906842624 W)
  have B2 := hide (fun W => cobetween_any n 0 10000 W)
  have B3 := hide (fun W => cobetween_any d 1 10000 W)
  have B4 := hide (fun W => cobetween_any (y : Int) 0 200 W)
  rw [decide_eq_true (by omega), decide_eq_true (by omega)] at B1 B2 B3 B4
  simp only [Bool.and_self] at B1 B2 B3 B4
  have SC := hide (fun (x : Int) (hx : 0 ≤ x ∧ x ≤ 1125899906842624) W => scale_full x d (d + n) W (by omega) (by omega) (by omega) (by omega) (by omega) (by omega) (by omega))
  have SP := hide (fun (x : Int) (hx : 0 ≤ x ∧ x ≤ 1125899906842624) => scP hx hn hd)
  have BD := hide (fun k => pr_bd (c := c) hn.1 hd.1 hc.1 k)
  have X := (Own.start w).alloc #[.int .i64 0, .int .i64 0] 36
  have hr := X.r1
  have ws := IntWalk.i64_in (d + n) (by omega)
  obtain ⟨c0, c1⟩ := hc
  clear hn hd
  go_enter Tryz.func9, Tryz.ntmps9
  go_wp2_with fail
  refine (B1.out _).mono ?_
  rintro e w' ⟨rfl, rfl⟩
  go_wp2_with fail
  refine (B2.out _).mono ?_
  rintro e w' ⟨rfl, rfl⟩
  go_wp2_with fail
  refine (B3.out _).mono ?_
  rintro e w' ⟨rfl, rfl⟩
  go_wp2_with fail
  refine (B4.out _).mono ?_
  rintro e w' ⟨rfl, rfl⟩
  go_wp2
  have HX0 := hide (X.alloc #[.int .i64 c, .int .i64 c] 36)
  simp only [World.size_alloc] at HX0
  clear X hr B1 B2 B3 B4
  go_loopw [39] (fun v39 wr => ∃ k : Nat, k ≤ y ∧ v39 = .int .i64 (k : Int) ∧ Hid (Own w wr [(w.heap.size + 1, 36, #[.int .i64 (prL n d k c), .int .i64 (prU n d k c)]), (w.heap.size, 36, #[.int .i64 0, .int .i64 0])])) (fun v _ => y - (intOf v).toNat)
  case atStart => exact ⟨0, by omega, rfl, HX0⟩
  case round =>
    clear HX0
    obtain ⟨k, hk, rfl, HX⟩ := hrel
    have hr := HX.out.r2
    by_cases hlt : k < y
    · have g1 : decide (k < y) = true := decide_eq_true hlt
      obtain ⟨b1, b2, b3⟩ := BD.out k
      have S1 := hide (SC.out (prL n d k c) (by omega))
      have S2 := hide (SC.out (prU n d k c) (by omega))
      obtain ⟨z1, z2, z3⟩ := SP.out (prL n d k c) (by omega)
      obtain ⟨y1, y2, y3⟩ := SP.out (prU n d k c) (by omega)
      rw [z1, z2] at S1
      rw [y1, y3] at S2
      have EL : Hid (prL n d (k + 1) c = dn (prL n d k c * d) (d + n)) := hide rfl
      have EU : Hid (prU n d (k + 1) c = up (prU n d k c * d) (d + n)) := hide rfl
      generalize dn (prL n d k c * d) (d + n) = l1 at *
      generalize up (prU n d k c * d) (d + n) = u1 at *
      generalize scHi (prL n d k c) d (d + n) = j1 at *
      generalize scLo (prU n d k c) d (d + n) = j2 at *
      generalize prL n d k c = l0 at *
      generalize prU n d k c = u0 at *
      clear z1 z2 z3 y1 y2 y3 SC SP BD
      go_wp2_with fail
      refine (S1.out _).mono ?_
      rintro e w1 ⟨rfl, hb⟩
      replace HX := hide (HX.out.to hb)
      clear hr hb
      have hr := HX.out.r2
      go_wp2_with fail
      refine (S2.out _).mono ?_
      rintro e w2 ⟨rfl, hb⟩
      replace HX := hide (HX.out.to hb)
      clear hr hb
      have hr := HX.out.r2
      have HZ : Hid (Own w ((w2.setCell ⟨w.heap.size + 1, 0, none⟩ (.int .i64 l1)).setCell ⟨w.heap.size + 1, 1, none⟩ (.int .i64 u1)) [(w.heap.size + 1, 36, #[.int .i64 (prL n d (k + 1) c), .int .i64 (prU n d (k + 1) c)]), (w.heap.size, 36, #[.int .i64 0, .int .i64 0])]) := hide (by rw [EL.out, EU.out]; exact HX.out.put2 (by omega) (by simp) _ _)
      clear HX EL EU
      go_wp2
      go_roundw
      case rel => exact ⟨k + 1, by omega, by go_num, HZ⟩
      case measure => simp [intOf]; omega
    · obtain rfl : k = y := by omega
      have g1 : decide (k < k) = false := decide_eq_false (by omega)
      have XB := hide HX.out.1
      generalize prL n d k c = l0 at *
      generalize prU n d k c = u0 at *
      clear SC SP BD HX
      go_wp2
      exact bodyPost_ret (v := .tuple #[.agg #[.int .i64 l0, .int .i64 u0], .int .i64 0]) (by simp [results, Tryz.results9, hr, go_sem]) rfl ⟨rfl, by have HX := XB.out; have hz := HX.size; go_grown⟩
theorem copresent_any (c n d y : Int) (w : World) : Calls Tryz.prog 9 #[.int .i64 c, .int .i64 n, .int .i64 d, .int .i64 y] w (RetW (.tuple #[(prS c n d y).val, .int .i64 (prE c n d y)]) w) := by
  by_cases h : prB c n d y = true
  · obtain ⟨h1, h2, h3, h4, h5⟩ := prB_iff.1 h
    obtain ⟨k, rfl⟩ : ∃ k : Nat, y = (k : Int) := ⟨y.toNat, by omega⟩
    unfold prS prE
    rw [if_pos h, if_pos h]
    exact copresent_ok c n d k w h1 h2 h3 (by omega)
  · unfold prS prE
    rw [if_neg h, if_neg h]
    exact copresent_no c n d y w (by simpa using h)
/-- the cost of the first items -/
theorem csS_take {l : List Itm} {k : Nat} (h : k < l.length) : csS (l.take (k + 1)) = csS (l.take k) + l[k].am * l[k].pr := by
  rw [List.take_succ_eq_append_getElem h, csS_append]
  simp [csS]
theorem csS_tb {l : List Itm} (hv : vI l = true) (k : Nat) : -(1152921504606846976 * 1000) ≤ csS (l.take k) ∧ csS (l.take k) ≤ 1152921504606846976 * 1000 := by
  obtain ⟨h1, h2⟩ := vI_iff.1 hv
  have b := csS_bd (l.take k) fun x hx => h2 x (List.mem_of_mem_take hx)
  have : (l.take k).length ≤ 1000 := by rw [List.length_take]; omega
  omega
set_option maxHeartbeats 1000000 in
theorem cobill_no (l : List Itm) (A : Option Addr) (cap : Nat) (w : World) (hl : ItmSl w A l) (h : vI l = false) : Calls Tryz.prog 16 #[.slice A l.length cap] w (RetW (.tuple #[.int .i64 0, .int .i64 1]) w) := by
  have V := hide (fun W h => covalid_any l A cap W h)
  rw [h] at V
  unfold RetW at V
  have HL := hide hl
  clear hl h
  go_enter Tryz.func16, Tryz.ntmps16
  go_wp2_with fail
  refine (V.out _ HL.out).mono ?_
  rintro e w1 ⟨rfl, hb⟩
  go_wp2
  go_ret2
  exact ⟨rfl, hb⟩
set_option maxRecDepth 100000 in
set_option maxHeartbeats 4000000 in
theorem cobill_ok (l : List Itm) (A : Option Addr) (cap : Nat) (w : World) (hl : ItmSl w A l) (hv : vI l = true) : Calls Tryz.prog 16 #[.slice A l.length cap] w (RetW (.tuple #[.int .i64 (biV l), .int .i64 (biE l)]) w) := by
  have V := hide (fun W h => covalid_any l A cap W h)
  rw [hv] at V
  have WO := hide (fun W => wsof_any 0 W (by omega))
  have hlen : l.length ≤ 9223372036854775807 := by have := hl.1.1; unfold maxLen at this; omega
  have IT := hide (fun k (h : k < l.length) => (vI_iff.1 hv).2 l[k] (List.getElem_mem h))
  have SB := hide (fun k => csS_tb hv k)
  have WI := hide (fun W => wsint_any (csS l) W (by have := csS_tb hv l.length; rw [List.take_length] at this; exact ⟨by omega, by omega⟩))
  have ET : Hid (csS (l.take l.length) = csS l) := hide (by rw [List.take_length])
  have EE : Hid (biE l = if -1152921504606846976 ≤ csS l ∧ csS l ≤ 1152921504606846976 then 0 else 5) := hide (by unfold biE; rw [if_pos hv])
  have EV : Hid (biV l = if biE l = 0 then csS l else 0) := hide rfl
  have B1 := hide (fun (n : Int) W => cobetween_any n (-1152921504606846976) 1152921504606846976 W)
  unfold RetW at V WO WI
  have HL := hide hl
  clear hl hv
  go_enter Tryz.func16, Tryz.ntmps16
  go_wp2_with fail
  refine (V.out _ HL.out).mono ?_
  rintro e w1 ⟨rfl, hb⟩
  have X := (Own.start w).to hb
  clear hb
  go_wp2_with fail
  refine (WO.out _).mono ?_
  rintro e w2 ⟨rfl, hb⟩
  have hw2 : w.heap.size ≤ w2.heap.size := (X.to hb).1.size
  have HX0 := hide ((X.to hb).alloc #[.int .i64 ((0 : Int) / 1152921504606846976), .int .i64 ((0 : Int) % 1152921504606846976)] 88)
  clear X hb V WO
  go_wp2
  go_loopw [17] (fun v17 wr => ∃ k : Nat, k ≤ l.length ∧ v17 = .int .i64 (k : Int) ∧ Hid (Own w wr [(w2.heap.size, 88, #[.int .i64 (csS (l.take k) / 1152921504606846976), .int .i64 (csS (l.take k) % 1152921504606846976)])])) (fun v _ => l.length - (intOf v).toNat)
  case atStart => exact ⟨0, by omega, rfl, HX0⟩
  case round =>
    clear HX0
    obtain ⟨k, hk, rfl, HX⟩ := hrel
    by_cases hlt : k < l.length
    · have g1 : decide (k < l.length) = true := decide_eq_true hlt
      have g2 : (0 : Int) ≤ (k : Int) := by omega
      have g3 : (k : Int) < (l.length : Int) := by omega
      obtain ⟨b, off, rfl, hbl, hat⟩ := HL.out.2 (by omega)
      obtain ⟨c0, c1, c2⟩ := hat k hlt
      replace c0 := (HX.out.1.cell (p := ⟨b, off + k * 3, none⟩) hbl).trans c0
      replace c1 := (HX.out.1.cell (p := ⟨b, off + k * 3 + 1, none⟩) hbl).trans c1
      replace c2 := (HX.out.1.cell (p := ⟨b, off + k * 3 + 2, none⟩) hbl).trans c2
      have ES := hide (csS_take hlt)
      have s0 := SB.out k
      have s1 := SB.out (k + 1)
      rw [ES.out] at s1
      have it := IT.out k hlt
      obtain ⟨⟨i1, i2⟩, i3, i4⟩ := itB_bd it
      have ib := prod_bd it
      generalize l[k] = x at *
      have PD := hide (fun W => wsproduct_any x.am x.pr W (by omega) (by omega) ⟨by omega, by omega⟩)
      have AD := hide (fun W => wsadd_any (csS (l.take k)) (x.am * x.pr) W ⟨by omega, by omega⟩ ⟨by omega, by omega⟩ ⟨by omega, by omega⟩)
      unfold RetW WV at PD AD
      rw [← ES.out] at AD
      have EN : ∃ u v p1 p2 s1' s2' : Int, u = csS (l.take (k + 1)) / 1152921504606846976 ∧ v = csS (l.take (k + 1)) % 1152921504606846976 ∧ p1 = x.am * x.pr / 1152921504606846976 ∧ p2 = x.am * x.pr % 1152921504606846976 ∧ s1' = csS (l.take k) / 1152921504606846976 ∧ s2' = csS (l.take k) % 1152921504606846976 := ⟨_, _, _, _, _, _, rfl, rfl, rfl, rfl, rfl, rfl⟩
      obtain ⟨u, v, p1, p2, s1', s2', eu, ev, e1, e2, e3, e4⟩ := EN
      rw [← e1, ← e2] at PD AD
      rw [← e3, ← e4] at AD HX
      rw [← eu, ← ev] at AD
      replace eu := hide eu
      replace ev := hide ev
      clear e1 e2 e3 e4 ES s0 s1 it i1 i2 i3 i4 ib hat SB WI ET EE EV
      have hr := HX.out.r1
      have nb : ¬ b = wr.heap.size := by have := HX.out.1.size; omega
      go_wp2_with fail
      refine (PD.out _).mono ?_
      rintro e w3 ⟨rfl, hb⟩
      replace HX := hide (((HX.out.alloc #[.string x.nm, .int .i64 x.am, .int .i64 x.pr] 43).to hb).alloc #[.int .i64 p1, .int .i64 p2] 88)
      clear hb hr c0 c1 c2 nb
      have hr := HX.out.r3
      go_wp2_with fail
      refine (AD.out _).mono ?_
      rintro e w4 ⟨rfl, hb⟩
      have HY := hide (HX.out.to hb).tail.tail
      clear hb hr HX
      have hr := HY.out.r1
      have HZ : Hid (Own w ((w4.setCell ⟨w2.heap.size, 0, none⟩ (.int .i64 u)).setCell ⟨w2.heap.size, 1, none⟩ (.int .i64 v)) [(w2.heap.size, 88, #[.int .i64 (csS (l.take (k + 1)) / 1152921504606846976), .int .i64 (csS (l.take (k + 1)) % 1152921504606846976)])]) := hide (by rw [← eu.out, ← ev.out]; exact HY.out.put2 hw2 (by simp) _ _)
      clear HY
      go_wp2
      go_roundw
      case rel => exact ⟨k + 1, by omega, by go_num, HZ⟩
      case measure => simp [intOf]; omega
    · obtain rfl : k = l.length := by omega
      have g1 : decide (l.length < l.length) = false := decide_eq_false (by omega)
      rw [ET.out] at HX
      have hr := HX.out.r1
      unfold WV at WI
      generalize csS l = S at *
      obtain ⟨u, v, eu, ev⟩ : ∃ u v : Int, u = S / 1152921504606846976 ∧ v = S % 1152921504606846976 := ⟨_, _, rfl, rfl⟩
      rw [← eu, ← ev] at WI HX
      rw [← eu, ← ev] at hr
      clear eu ev SB IT
      by_cases hb0 : i64B S = true
      · have yy := i64_yes hb0
        rw [yy.1, yy.2] at WI
        have BN := hide (B1.out S)
        by_cases hS : -1152921504606846976 ≤ S ∧ S ≤ 1152921504606846976
        · have E0 : biE l = 0 := by rw [EE.out, if_pos hS]
          have V0 : biV l = S := by rw [EV.out, if_pos E0]
          have EZ := hide (And.intro E0 V0)
          rw [decide_eq_true hS.1, decide_eq_true hS.2] at BN
          clear hS hb0 yy E0 V0 EE EV
          go_wp2_with fail
          refine (WI.out _).mono ?_
          rintro e w3 ⟨rfl, hb⟩
          have XB := hide (HX.out.to hb).1
          clear hb hr HX
          go_wp2_with fail
          refine (BN.out _).mono ?_
          rintro e w' ⟨rfl, rfl⟩
          go_wp2
          go_ret2
          exact ⟨by rw [EZ.out.1, EZ.out.2]; rfl, XB.out⟩
        · have E0 : biE l = 5 := by rw [EE.out, if_neg hS]
          have V0 : biV l = 0 := by rw [EV.out, E0]; rfl
          have EZ := hide (And.intro E0 V0)
          have bf : (decide (-1152921504606846976 ≤ S) && decide (S ≤ 1152921504606846976)) = false := by
            cases h : (decide (-1152921504606846976 ≤ S) && decide (S ≤ 1152921504606846976)) with
            | false => rfl
            | true => exact absurd (by simpa using h) hS
          rw [bf] at BN
          clear hS hb0 yy E0 V0 EE EV bf
          go_wp2_with fail
          refine (WI.out _).mono ?_
          rintro e w3 ⟨rfl, hb⟩
          have XB := hide (HX.out.to hb).1
          clear hb hr HX
          go_wp2_with fail
          refine (BN.out _).mono ?_
          rintro e w' ⟨rfl, rfl⟩
          go_wp2
          go_ret2
          exact ⟨by rw [EZ.out.1, EZ.out.2]; rfl, XB.out⟩
      · have hb0 : i64B S = false := by simpa using hb0
        have yy := i64_no hb0
        rw [yy.1, yy.2] at WI
        have hS : ¬ (-1152921504606846976 ≤ S ∧ S ≤ 1152921504606846976) := fun h => by
          have : i64B S = true := i64B_iff.2 (by omega)
          rw [this] at hb0; cases hb0
        have E0 : biE l = 5 := by rw [EE.out, if_neg hS]
        have V0 : biV l = 0 := by rw [EV.out, E0]; rfl
        have EZ := hide (And.intro E0 V0)
        clear hS hb0 yy E0 V0 EE EV
        go_wp2_with fail
        refine (WI.out _).mono ?_
        rintro e w3 ⟨rfl, hb⟩
        have XB := hide (HX.out.to hb).1
        clear hb hr HX
        go_wp2
        go_ret2
        exact ⟨by rw [EZ.out.1, EZ.out.2]; rfl, XB.out⟩
theorem cobill_any (l : List Itm) (A : Option Addr) (cap : Nat) (w : World) (hl : ItmSl w A l) : Calls Tryz.prog 16 #[.slice A l.length cap] w (RetW (.tuple #[.int .i64 (biV l), .int .i64 (biE l)]) w) := by
  cases h : vI l with
  | true => exact cobill_ok l A cap w hl h
  | false =>
    have E0 : biE l = 1 := by unfold biE; rw [h]; rfl
    have V0 : biV l = 0 := by unfold biV; rw [E0]; rfl
    rw [E0, V0]
    exact cobill_no l A cap w hl h
end Go.Proofs.YtdcdfjinbieblaaGreatDoor

namespace Go.Proofs.YtdcdfjinbieblaaGreatDoor
open Go Go.RowKit

def awM : Msh := ⟨[⟨0, 0, 2000⟩, ⟨20000, 0, 2000⟩, ⟨0, 20000, 2000⟩], [⟨0, 1, 2, 0⟩]⟩
def awP : Pnt := ⟨1000, 1000⟩
def awQ : Pnt := ⟨17000, 1000⟩
def awL : List Itm := [⟨⟨#[97]⟩, 3, 5⟩, ⟨⟨#[98]⟩, -2, 7⟩]
theorem aw_pr : prE 1000 1 10 2 = 0 ∧ (prS 1000 1 10 2).val = .agg #[.int .i64 826, .int .i64 828] := by
  have h : prB 1000 1 10 2 = true := by decide
  unfold prE prS
  rw [if_pos h, if_pos h]
  exact ⟨rfl, rfl⟩
theorem aw_bi : biV awL = 1 ∧ biE awL = 0 := by decide +kernel
theorem aw_ds : dsS awP awQ = ⟨16000, 16000⟩ := by
  have e : sqD awP awQ = 256000000 := by decide +kernel
  have h : isq 256000000 = 16000 := isq_uniq (by omega) (by omega) (by omega) (by omega)
  unfold dsS isqU
  rw [e, h]; rfl
theorem aw_vM : vM awM = true := by decide +kernel
theorem aw_all : allL awM awP awQ 17 = true := by decide +kernel
theorem aw_sm : smL awM awP awQ 1000 1000 17 = 32000 ∧ smH awM awP awQ 1000 1000 17 = 32000 := by decide +kernel
theorem aw_trE : trE awM awP awQ 1000 1000 500 = 0 := by
  unfold trE gvE
  rw [aw_vM, aw_all]
  decide +kernel
theorem aw_tr : (trR awM awP awQ 1000 1000 500).val = .agg #[.int .i64 8000000, .int .i64 8000000] := by
  unfold trR
  rw [if_pos aw_trE]
  unfold trS
  rw [aw_sm.1, aw_sm.2, aw_ds]
  rfl
theorem ItmSl.of_own {w W : World} {b : Nat} {L : List (Nat × TypeId × Array Value)} (h : Own w W ((b, 43, #[.string ⟨#[97]⟩, .int .i64 3, .int .i64 5, .string ⟨#[98]⟩, .int .i64 (-2), .int .i64 7]) :: L)) : ItmSl W (some ⟨b, 0, none⟩) awL := by
  refine ⟨⟨by decide, fun i hi => ?_⟩, fun _ => ⟨b, 0, rfl, h.r1.2.2, fun i hi => ?_⟩⟩
  · have hi' : i < 2 := hi
    match i, hi' with
    | 0, _ => exact (by decide : (⟨#[97]⟩ : ByteArray).size ≤ maxLen)
    | 1, _ => exact (by decide : (⟨#[98]⟩ : ByteArray).size ≤ maxLen)
  · have hi' : i < 2 := hi
    match i, hi' with
    | 0, _ => exact ⟨h.r1.1 0, h.r1.1 1, h.r1.1 2⟩
    | 1, _ => exact ⟨h.r1.1 3, h.r1.1 4, h.r1.1 5⟩
theorem MshSl.of_own {w W : World} {bs bf : Nat} {L : List (Nat × TypeId × Array Value)} (h : Own w W ((bf, 62, #[.int .i64 0, .int .i64 1, .int .i64 2, .int .i64 0]) :: (bs, 59, #[.int .i64 0, .int .i64 0, .int .i64 2000, .int .i64 20000, .int .i64 0, .int .i64 2000, .int .i64 0, .int .i64 20000, .int .i64 2000]) :: L)) : MshSl W awM ⟨some ⟨bs, 0, none⟩, 3, some ⟨bf, 0, none⟩, 1⟩ := by
  refine ⟨⟨⟨by decide, fun i hi => ?_⟩, fun _ => ⟨bs, 0, rfl, h.r2.2.2.2, fun i hi => ?_⟩⟩, ⟨⟨by decide, fun i hi => ?_⟩, fun _ => ⟨bf, 0, rfl, h.r2.1.2.2, fun i hi => ?_⟩⟩⟩
  · have hi' : i < 3 := hi
    match i, hi' with
    | 0, _ => exact (by unfold i64; decide : i64 0 ∧ i64 0 ∧ i64 2000)
    | 1, _ => exact (by unfold i64; decide : i64 20000 ∧ i64 0 ∧ i64 2000)
    | 2, _ => exact (by unfold i64; decide : i64 0 ∧ i64 20000 ∧ i64 2000)
  · have hi' : i < 3 := hi
    match i, hi' with
    | 0, _ => exact ⟨h.r2.2.1 0, h.r2.2.1 1, h.r2.2.1 2⟩
    | 1, _ => exact ⟨h.r2.2.1 3, h.r2.2.1 4, h.r2.2.1 5⟩
    | 2, _ => exact ⟨h.r2.2.1 6, h.r2.2.1 7, h.r2.2.1 8⟩
  · have hi' : i < 1 := hi
    match i, hi' with
    | 0, _ => exact (by unfold i64; decide : i64 0 ∧ i64 1 ∧ i64 2 ∧ i64 0)
  · have hi' : i < 1 := hi
    match i, hi' with
    | 0, _ => exact ⟨h.r2.1.1 0, h.r2.1.1 1, h.r2.1.1 2, h.r2.1.1 3⟩
set_option maxRecDepth 100000 in
set_option maxHeartbeats 4000000 in
theorem awake48_any (w : World) (ht : Lib.TabIs Tryz.prog w "internal/strconv.uint64pow10" .u64 Lib.pow10Tab) : Calls Tryz.prog 5 #[] w (RetW (.bool true) w) := by
  have P := hide (fun W => copresent_any 1000 1 10 2 W)
  rw [aw_pr.1, aw_pr.2] at P
  have B := hide (fun W A c h => cobill_any awL A c W h)
  rw [aw_bi.1, aw_bi.2] at B
  have T := hide (fun W a h h' => cotrench_any awM a awP awQ 1000 1000 500 W h h')
  rw [aw_trE, aw_tr] at T
  unfold RetW at P B T
  have HT := hide ht
  have X := Own.start w
  clear ht
  go_enter Tryz.func5, Tryz.ntmps5
  go_wp2_with fail
  refine (P.out _).mono ?_
  rintro e w1 ⟨rfl, hb⟩
  replace X := ((X.to hb).alloc #[.int .i64 826, .int .i64 828] 36).alloc #[.string ⟨#[97]⟩, .int .i64 3, .int .i64 5, .string ⟨#[98]⟩, .int .i64 (-2), .int .i64 7] 43
  simp only [World.size_alloc] at X
  clear hb
  have hr := X.r2
  have IS := hide (ItmSl.of_own X)
  go_wp2_with fail
  refine (B.out _ _ 2 IS.out).mono ?_
  rintro e w2 ⟨rfl, hb⟩
  replace X := ((X.to hb).alloc #[.int .i64 0, .int .i64 0, .int .i64 2000, .int .i64 20000, .int .i64 0, .int .i64 2000, .int .i64 0, .int .i64 20000, .int .i64 2000] 59).alloc #[.int .i64 0, .int .i64 1, .int .i64 2, .int .i64 0] 62
  simp only [World.size_alloc] at X
  have MS0 := MshSl.of_own X
  have Y := X.alloc #[.slice (some ⟨w2.heap.size, 0, none⟩) 3 3, .slice (some ⟨w2.heap.size + 1, 0, none⟩) 1 1] 65
  simp only [World.size_alloc] at Y
  have MS := hide (MS0.below ((Below.refl _ _).alloc (Nat.le_refl _) (.cells #[.slice (some ⟨w2.heap.size, 0, none⟩) 3 3, .slice (some ⟨w2.heap.size + 1, 0, none⟩) 1 1] 65)))
  clear hb hr IS X MS0
  have hr := Y.r5
  have XB := hide Y.1
  go_wp2_with fail
  refine (T.out _ _ MS.out (tab_below HT.out XB.out)).mono ?_
  rintro e w3 ⟨rfl, hb⟩
  have Z := (Y.to hb).alloc #[.int .i64 8000000, .int .i64 8000000] 36
  have n1 : w2.heap.size + 1 + 1 < w3.heap.size := (Y.to hb).r1.2.2
  clear hb hr Y
  have hr := Z.r6
  have ZB := hide Z.1
  clear Z
  go_wp2
  go_ret
  exact ⟨rfl, ZB.out⟩
end Go.Proofs.YtdcdfjinbieblaaGreatDoor
