/- Parts of a text between bytes of a kind: what strings.Split returns at a separator of one byte, and what the references' loops gather; plain facts. -/
import Derived.Test.YtnhimgabcljahaaGreatDoorDecP
import Derived.Lib.Split
import Derived.Lib.CountLaws
namespace Go.Proofs.YtnhimgabcljahaaGreatDoor
open Go.Lib

/-- the parts of a text between bytes c -/
def pts (c : UInt8) : List UInt8 → List (List UInt8)
  | [] => [[]]
  | b :: r => if b = c then [] :: pts c r else match pts c r with | [] => [[b]] | h :: t => (b :: h) :: t
theorem pts_ne (c : UInt8) : ∀ l, pts c l ≠ []
  | [] => by simp [pts]
  | b :: r => by
    rw [pts]
    split
    · simp
    · split <;> simp
theorem pts_no {c : UInt8} : ∀ {l : List UInt8}, c ∉ l → pts c l = [l]
  | [], _ => rfl
  | b :: r, h => by
    have h1 : ¬ b = c := fun e => h (e ▸ List.mem_cons_self ..)
    rw [pts, if_neg h1, pts_no (fun h' => h (List.mem_cons_of_mem _ h'))]
theorem pts_at {c : UInt8} : ∀ {a r : List UInt8}, c ∉ a → pts c (a ++ c :: r) = a :: pts c r
  | [], r, _ => by simp [pts]
  | b :: a, r, h => by
    have h1 : ¬ b = c := fun e => h (e ▸ List.mem_cons_self ..)
    rw [List.cons_append, pts, if_neg h1, pts_at (fun h' => h (List.mem_cons_of_mem _ h'))]
theorem split_at_first {c : UInt8} : ∀ {l : List UInt8}, c ∈ l → ∃ a r, l = a ++ c :: r ∧ c ∉ a
  | [], h => by simp at h
  | b :: l, h => by
    by_cases e : b = c
    · exact ⟨[], l, by rw [e]; rfl, by simp⟩
    · have h2 : c ∈ l := by
        rcases List.mem_cons.1 h with h | h
        · exact absurd h.symm e
        · exact h
      obtain ⟨a, r, rfl, ha⟩ := split_at_first h2
      exact ⟨b :: a, r, rfl, by simp [ha]; exact fun e' => e e'.symm⟩
theorem split_pts (c : UInt8) : ∀ (n : Nat) (l : List UInt8), l.length ≤ n → Lib.split l [c] = pts c l := by
  intro n
  induction n with
  | zero =>
    intro l h
    have : l = [] := List.eq_nil_of_length_eq_zero (by omega)
    subst this
    unfold Lib.split
    rw [count_miss (index_no (by simp))]
    rfl
  | succ n ih =>
    intro l h
    by_cases hc : c ∈ l
    · obtain ⟨a, r, rfl, ha⟩ := split_at_first hc
      have hi : index (a ++ c :: r) [c] = (a.length : Int) := index_at (t := []) (r := r) ha
      have hd : (a ++ c :: r).drop (a.length + 1) = r := by simp [List.drop_append]
      unfold Lib.split
      have hcount := count_hit (s := a ++ c :: r) (sub := [c]) (i := a.length) (by simp) hi
      rw [show a.length + [c].length = a.length + 1 from rfl, hd] at hcount
      rw [hcount, Nat.add_comm, splitK, if_neg (by rw [hi]; simp), hi]
      rw [pts_at ha]
      have e1 : (a ++ c :: r).take ((a.length : Int).toNat + 0) = a := by simp
      have e2 : (a ++ c :: r).drop ((a.length : Int).toNat + [c].length) = r := by
        show (a ++ c :: r).drop (a.length + 1) = r
        exact hd
      rw [e1, e2]
      have := ih r (by simp at h; omega)
      unfold Lib.split at this
      rw [this]
    · rw [pts_no hc]
      unfold Lib.split
      rw [count_miss (index_no hc)]
      rfl
end Go.Proofs.YtnhimgabcljahaaGreatDoor
