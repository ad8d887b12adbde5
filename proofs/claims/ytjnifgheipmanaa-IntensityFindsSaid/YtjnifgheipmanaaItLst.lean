/- The program's least, Duration and Period: the span of the least number at which a depth is reached, or the error; nothing that was there is turned. -/
import Derived.Test.YtjnifgheipmanaaItDep
namespace Go.Proofs.Ytjnifgheipmanaa
open Go.RowKit

theorem cells9_below {W W' : World} (hb : Below W.heap.size W W') {a1 a2 a3 a4 a5 a6 a7 a8 a9 : Addr} {u1 u2 u3 u4 u5 u6 u7 u8 u9 : Value}
    (h : W.cell? a1 = some u1 ∧ W.cell? a2 = some u2 ∧ W.cell? a3 = some u3 ∧ W.cell? a4 = some u4 ∧ W.cell? a5 = some u5 ∧ W.cell? a6 = some u6 ∧ W.cell? a7 = some u7 ∧ W.cell? a8 = some u8 ∧ W.cell? a9 = some u9) :
    W'.cell? a1 = some u1 ∧ W'.cell? a2 = some u2 ∧ W'.cell? a3 = some u3 ∧ W'.cell? a4 = some u4 ∧ W'.cell? a5 = some u5 ∧ W'.cell? a6 = some u6 ∧ W'.cell? a7 = some u7 ∧ W'.cell? a8 = some u8 ∧ W'.cell? a9 = some u9 := by
  have k : ∀ (p : Addr) v, W.cell? p = some v → W'.cell? p = some v := fun p v hc => (hb.cell (lt_of_cell hc)).trans hc
  obtain ⟨h1, h2, h3, h4, h5, h6, h7, h8, h9⟩ := h
  exact ⟨k _ _ h1, k _ _ h2, k _ _ h3, k _ _ h4, k _ _ h5, k _ _ h6, k _ _ h7, k _ _ h8, k _ _ h9⟩
def NumPost (n : Int) (w : World) (e : Ending) (w' : World) : Prop := e = .returned (.int .i64 n) ∧ Below w.heap.size w w'
/-- what least returns -/
def LeastPost (l : List Int) (g : Nat → Int) (wh v : Int) (w : World) (e : Ending) (w' : World) : Prop :=
  Below w.heap.size w w' ∧ ((∃ lo hi, Fnd l g wh v lo hi ∧ e = .returned (.tuple #[Sv lo hi, .int .i64 0])) ∨ (NoF l g wh v ∧ e = .returned (.tuple #[Sv 0 0, .int .i64 12])))
theorem LeastPost.yes {l : List Int} {g : Nat → Int} {wh v lo hi lo' hi' : Int} {w w' : World} (h : Fnd l g wh v lo hi) (h1 : lo = lo') (h2 : hi = hi') (hb : Below w.heap.size w w') : LeastPost l g wh v w (.returned (.tuple #[Sv lo' hi', .int .i64 0])) w' := by subst h1 h2; exact ⟨hb, .inl ⟨_, _, h, rfl⟩⟩
theorem LeastPost.no {l : List Int} {g : Nat → Int} {wh v : Int} {w w' : World} (h : NoF l g wh v) (hb : Below w.heap.size w w') : LeastPost l g wh v w (.returned (.tuple #[Sv 0 0, .int .i64 12])) w' := ⟨hb, .inr ⟨h, rfl⟩⟩
structure LeastIn (l : List Int) (g : Nat → Int) (wh : Int) : Prop where
  line : Line l g wh
  small : SmallL l
  len : l.length ≤ 100
  gb : ∀ i, i < l.length → 0 ≤ g i ∧ g i ≤ 4194304 * wh
  wb : wh ≤ 2592000
/-- between two points, in natural numbers -/
theorem between_nat {A D C : Int} (hA : 0 < A) (hAC : A < C) (hD : 0 < D) (hA' : A ≤ 10871635968000) (hC' : C ≤ 10871635968000) (hD' : D ≤ 2592000) : ∃ a d c : Nat, A = (a : Int) ∧ D = (d : Int) ∧ C = (c : Int) ∧ 0 < c ∧ a ≤ 9223372036854775807 ∧ d ≤ 9223372036854775807 ∧ c ≤ 9223372036854775807 ∧
    a * d < 1329227995784915872903807060280344576 ∧ a * d / c < 4611686018427387904 ∧ 0 ≤ A * D / C ∧ A * D / C ≤ 2592000 ∧ 0 ≤ cdiv (A * D) C ∧ cdiv (A * D) C ≤ 2592000 := by
  obtain ⟨a, rfl⟩ : ∃ a : Nat, A = (a : Int) := ⟨A.toNat, by omega⟩
  obtain ⟨d, rfl⟩ : ∃ d : Nat, D = (d : Int) := ⟨D.toNat, by omega⟩
  obtain ⟨c, rfl⟩ : ∃ c : Nat, C = (c : Int) := ⟨C.toNat, by omega⟩
  have p1 : a * d ≤ 10871635968000 * 2592000 := Nat.mul_le_mul (by omega) (by omega)
  have p2 : a * d ≤ c * 2592000 := Nat.mul_le_mul (by omega) (by omega)
  have p3 : (a : Int) * (d : Int) = ((a * d : Nat) : Int) := by simp
  have p4 : (0 : Int) ≤ (a : Int) * (d : Int) / (c : Int) := Int.ediv_nonneg (by omega) (by omega)
  have f := fc_le (n := (a : Int) * (d : Int)) (d := (c : Int)) (by omega)
  have q2 : cdiv ((a : Int) * (d : Int)) (c : Int) ≤ 2592000 := (cdiv_iff (by omega)).2 (by rw [p3, Int.mul_comm]; omega)
  exact ⟨a, d, c, rfl, rfl, rfl, by omega, by omega, by omega, by omega, by omega, Nat.div_lt_of_lt_mul (by omega), p4, by omega, by omega, q2⟩

end Go.Proofs.Ytjnifgheipmanaa
