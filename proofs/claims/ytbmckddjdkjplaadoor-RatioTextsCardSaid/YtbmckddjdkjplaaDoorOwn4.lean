/- More rules that the walk uses: of eleven to fourteen blocks of its own. -/
import Derived.Test.YtbmckddjdkjplaaDoorOwn3
namespace Go.Proofs.YtbmckddjdkjplaaDoor

theorem Own.r11 {w W : World} {b0 b1 b2 b3 b4 b5 b6 b7 b8 b9 b10 : Nat} {t0 t1 t2 t3 t4 t5 t6 t7 t8 t9 t10 : TypeId} {c0 c1 c2 c3 c4 c5 c6 c7 c8 c9 c10 : Array Value} {L} (h : Own w W ((b0, t0, c0) :: (b1, t1, c1) :: (b2, t2, c2) :: (b3, t3, c3) :: (b4, t4, c4) :: (b5, t5, c5) :: (b6, t6, c6) :: (b7, t7, c7) :: (b8, t8, c8) :: (b9, t9, c9) :: (b10, t10, c10) :: L)) :
    ((∀ i, W.cell? ⟨b0, i, none⟩ = c0[i]?) ∧ (∀ i, W.frozen? ⟨b0, i, none⟩ = false) ∧ b0 < W.heap.size) ∧
    ((∀ i, W.cell? ⟨b1, i, none⟩ = c1[i]?) ∧ (∀ i, W.frozen? ⟨b1, i, none⟩ = false) ∧ b1 < W.heap.size) ∧
    ((∀ i, W.cell? ⟨b2, i, none⟩ = c2[i]?) ∧ (∀ i, W.frozen? ⟨b2, i, none⟩ = false) ∧ b2 < W.heap.size) ∧
    ((∀ i, W.cell? ⟨b3, i, none⟩ = c3[i]?) ∧ (∀ i, W.frozen? ⟨b3, i, none⟩ = false) ∧ b3 < W.heap.size) ∧
    ((∀ i, W.cell? ⟨b4, i, none⟩ = c4[i]?) ∧ (∀ i, W.frozen? ⟨b4, i, none⟩ = false) ∧ b4 < W.heap.size) ∧
    ((∀ i, W.cell? ⟨b5, i, none⟩ = c5[i]?) ∧ (∀ i, W.frozen? ⟨b5, i, none⟩ = false) ∧ b5 < W.heap.size) ∧
    ((∀ i, W.cell? ⟨b6, i, none⟩ = c6[i]?) ∧ (∀ i, W.frozen? ⟨b6, i, none⟩ = false) ∧ b6 < W.heap.size) ∧
    ((∀ i, W.cell? ⟨b7, i, none⟩ = c7[i]?) ∧ (∀ i, W.frozen? ⟨b7, i, none⟩ = false) ∧ b7 < W.heap.size) ∧
    ((∀ i, W.cell? ⟨b8, i, none⟩ = c8[i]?) ∧ (∀ i, W.frozen? ⟨b8, i, none⟩ = false) ∧ b8 < W.heap.size) ∧
    ((∀ i, W.cell? ⟨b9, i, none⟩ = c9[i]?) ∧ (∀ i, W.frozen? ⟨b9, i, none⟩ = false) ∧ b9 < W.heap.size) ∧
    ((∀ i, W.cell? ⟨b10, i, none⟩ = c10[i]?) ∧ (∀ i, W.frozen? ⟨b10, i, none⟩ = false) ∧ b10 < W.heap.size) := ⟨h.r1, h.tail.r10⟩
theorem Own.r12 {w W : World} {b0 b1 b2 b3 b4 b5 b6 b7 b8 b9 b10 b11 : Nat} {t0 t1 t2 t3 t4 t5 t6 t7 t8 t9 t10 t11 : TypeId} {c0 c1 c2 c3 c4 c5 c6 c7 c8 c9 c10 c11 : Array Value} {L} (h : Own w W ((b0, t0, c0) :: (b1, t1, c1) :: (b2, t2, c2) :: (b3, t3, c3) :: (b4, t4, c4) :: (b5, t5, c5) :: (b6, t6, c6) :: (b7, t7, c7) :: (b8, t8, c8) :: (b9, t9, c9) :: (b10, t10, c10) :: (b11, t11, c11) :: L)) :
    ((∀ i, W.cell? ⟨b0, i, none⟩ = c0[i]?) ∧ (∀ i, W.frozen? ⟨b0, i, none⟩ = false) ∧ b0 < W.heap.size) ∧
    ((∀ i, W.cell? ⟨b1, i, none⟩ = c1[i]?) ∧ (∀ i, W.frozen? ⟨b1, i, none⟩ = false) ∧ b1 < W.heap.size) ∧
    ((∀ i, W.cell? ⟨b2, i, none⟩ = c2[i]?) ∧ (∀ i, W.frozen? ⟨b2, i, none⟩ = false) ∧ b2 < W.heap.size) ∧
    ((∀ i, W.cell? ⟨b3, i, none⟩ = c3[i]?) ∧ (∀ i, W.frozen? ⟨b3, i, none⟩ = false) ∧ b3 < W.heap.size) ∧
    ((∀ i, W.cell? ⟨b4, i, none⟩ = c4[i]?) ∧ (∀ i, W.frozen? ⟨b4, i, none⟩ = false) ∧ b4 < W.heap.size) ∧
    ((∀ i, W.cell? ⟨b5, i, none⟩ = c5[i]?) ∧ (∀ i, W.frozen? ⟨b5, i, none⟩ = false) ∧ b5 < W.heap.size) ∧
    ((∀ i, W.cell? ⟨b6, i, none⟩ = c6[i]?) ∧ (∀ i, W.frozen? ⟨b6, i, none⟩ = false) ∧ b6 < W.heap.size) ∧
    ((∀ i, W.cell? ⟨b7, i, none⟩ = c7[i]?) ∧ (∀ i, W.frozen? ⟨b7, i, none⟩ = false) ∧ b7 < W.heap.size) ∧
    ((∀ i, W.cell? ⟨b8, i, none⟩ = c8[i]?) ∧ (∀ i, W.frozen? ⟨b8, i, none⟩ = false) ∧ b8 < W.heap.size) ∧
    ((∀ i, W.cell? ⟨b9, i, none⟩ = c9[i]?) ∧ (∀ i, W.frozen? ⟨b9, i, none⟩ = false) ∧ b9 < W.heap.size) ∧
    ((∀ i, W.cell? ⟨b10, i, none⟩ = c10[i]?) ∧ (∀ i, W.frozen? ⟨b10, i, none⟩ = false) ∧ b10 < W.heap.size) ∧
    ((∀ i, W.cell? ⟨b11, i, none⟩ = c11[i]?) ∧ (∀ i, W.frozen? ⟨b11, i, none⟩ = false) ∧ b11 < W.heap.size) := ⟨h.r1, h.tail.r11⟩
theorem Own.r13 {w W : World} {b0 b1 b2 b3 b4 b5 b6 b7 b8 b9 b10 b11 b12 : Nat} {t0 t1 t2 t3 t4 t5 t6 t7 t8 t9 t10 t11 t12 : TypeId} {c0 c1 c2 c3 c4 c5 c6 c7 c8 c9 c10 c11 c12 : Array Value} {L} (h : Own w W ((b0, t0, c0) :: (b1, t1, c1) :: (b2, t2, c2) :: (b3, t3, c3) :: (b4, t4, c4) :: (b5, t5, c5) :: (b6, t6, c6) :: (b7, t7, c7) :: (b8, t8, c8) :: (b9, t9, c9) :: (b10, t10, c10) :: (b11, t11, c11) :: (b12, t12, c12) :: L)) :
    ((∀ i, W.cell? ⟨b0, i, none⟩ = c0[i]?) ∧ (∀ i, W.frozen? ⟨b0, i, none⟩ = false) ∧ b0 < W.heap.size) ∧
    ((∀ i, W.cell? ⟨b1, i, none⟩ = c1[i]?) ∧ (∀ i, W.frozen? ⟨b1, i, none⟩ = false) ∧ b1 < W.heap.size) ∧
    ((∀ i, W.cell? ⟨b2, i, none⟩ = c2[i]?) ∧ (∀ i, W.frozen? ⟨b2, i, none⟩ = false) ∧ b2 < W.heap.size) ∧
    ((∀ i, W.cell? ⟨b3, i, none⟩ = c3[i]?) ∧ (∀ i, W.frozen? ⟨b3, i, none⟩ = false) ∧ b3 < W.heap.size) ∧
    ((∀ i, W.cell? ⟨b4, i, none⟩ = c4[i]?) ∧ (∀ i, W.frozen? ⟨b4, i, none⟩ = false) ∧ b4 < W.heap.size) ∧
    ((∀ i, W.cell? ⟨b5, i, none⟩ = c5[i]?) ∧ (∀ i, W.frozen? ⟨b5, i, none⟩ = false) ∧ b5 < W.heap.size) ∧
    ((∀ i, W.cell? ⟨b6, i, none⟩ = c6[i]?) ∧ (∀ i, W.frozen? ⟨b6, i, none⟩ = false) ∧ b6 < W.heap.size) ∧
    ((∀ i, W.cell? ⟨b7, i, none⟩ = c7[i]?) ∧ (∀ i, W.frozen? ⟨b7, i, none⟩ = false) ∧ b7 < W.heap.size) ∧
    ((∀ i, W.cell? ⟨b8, i, none⟩ = c8[i]?) ∧ (∀ i, W.frozen? ⟨b8, i, none⟩ = false) ∧ b8 < W.heap.size) ∧
    ((∀ i, W.cell? ⟨b9, i, none⟩ = c9[i]?) ∧ (∀ i, W.frozen? ⟨b9, i, none⟩ = false) ∧ b9 < W.heap.size) ∧
    ((∀ i, W.cell? ⟨b10, i, none⟩ = c10[i]?) ∧ (∀ i, W.frozen? ⟨b10, i, none⟩ = false) ∧ b10 < W.heap.size) ∧
    ((∀ i, W.cell? ⟨b11, i, none⟩ = c11[i]?) ∧ (∀ i, W.frozen? ⟨b11, i, none⟩ = false) ∧ b11 < W.heap.size) ∧
    ((∀ i, W.cell? ⟨b12, i, none⟩ = c12[i]?) ∧ (∀ i, W.frozen? ⟨b12, i, none⟩ = false) ∧ b12 < W.heap.size) := ⟨h.r1, h.tail.r12⟩
theorem Own.r14 {w W : World} {b0 b1 b2 b3 b4 b5 b6 b7 b8 b9 b10 b11 b12 b13 : Nat} {t0 t1 t2 t3 t4 t5 t6 t7 t8 t9 t10 t11 t12 t13 : TypeId} {c0 c1 c2 c3 c4 c5 c6 c7 c8 c9 c10 c11 c12 c13 : Array Value} {L} (h : Own w W ((b0, t0, c0) :: (b1, t1, c1) :: (b2, t2, c2) :: (b3, t3, c3) :: (b4, t4, c4) :: (b5, t5, c5) :: (b6, t6, c6) :: (b7, t7, c7) :: (b8, t8, c8) :: (b9, t9, c9) :: (b10, t10, c10) :: (b11, t11, c11) :: (b12, t12, c12) :: (b13, t13, c13) :: L)) :
    ((∀ i, W.cell? ⟨b0, i, none⟩ = c0[i]?) ∧ (∀ i, W.frozen? ⟨b0, i, none⟩ = false) ∧ b0 < W.heap.size) ∧
    ((∀ i, W.cell? ⟨b1, i, none⟩ = c1[i]?) ∧ (∀ i, W.frozen? ⟨b1, i, none⟩ = false) ∧ b1 < W.heap.size) ∧
    ((∀ i, W.cell? ⟨b2, i, none⟩ = c2[i]?) ∧ (∀ i, W.frozen? ⟨b2, i, none⟩ = false) ∧ b2 < W.heap.size) ∧
    ((∀ i, W.cell? ⟨b3, i, none⟩ = c3[i]?) ∧ (∀ i, W.frozen? ⟨b3, i, none⟩ = false) ∧ b3 < W.heap.size) ∧
    ((∀ i, W.cell? ⟨b4, i, none⟩ = c4[i]?) ∧ (∀ i, W.frozen? ⟨b4, i, none⟩ = false) ∧ b4 < W.heap.size) ∧
    ((∀ i, W.cell? ⟨b5, i, none⟩ = c5[i]?) ∧ (∀ i, W.frozen? ⟨b5, i, none⟩ = false) ∧ b5 < W.heap.size) ∧
    ((∀ i, W.cell? ⟨b6, i, none⟩ = c6[i]?) ∧ (∀ i, W.frozen? ⟨b6, i, none⟩ = false) ∧ b6 < W.heap.size) ∧
    ((∀ i, W.cell? ⟨b7, i, none⟩ = c7[i]?) ∧ (∀ i, W.frozen? ⟨b7, i, none⟩ = false) ∧ b7 < W.heap.size) ∧
    ((∀ i, W.cell? ⟨b8, i, none⟩ = c8[i]?) ∧ (∀ i, W.frozen? ⟨b8, i, none⟩ = false) ∧ b8 < W.heap.size) ∧
    ((∀ i, W.cell? ⟨b9, i, none⟩ = c9[i]?) ∧ (∀ i, W.frozen? ⟨b9, i, none⟩ = false) ∧ b9 < W.heap.size) ∧
    ((∀ i, W.cell? ⟨b10, i, none⟩ = c10[i]?) ∧ (∀ i, W.frozen? ⟨b10, i, none⟩ = false) ∧ b10 < W.heap.size) ∧
    ((∀ i, W.cell? ⟨b11, i, none⟩ = c11[i]?) ∧ (∀ i, W.frozen? ⟨b11, i, none⟩ = false) ∧ b11 < W.heap.size) ∧
    ((∀ i, W.cell? ⟨b12, i, none⟩ = c12[i]?) ∧ (∀ i, W.frozen? ⟨b12, i, none⟩ = false) ∧ b12 < W.heap.size) ∧
    ((∀ i, W.cell? ⟨b13, i, none⟩ = c13[i]?) ∧ (∀ i, W.frozen? ⟨b13, i, none⟩ = false) ∧ b13 < W.heap.size) := ⟨h.r1, h.tail.r13⟩
end Go.Proofs.YtbmckddjdkjplaaDoor
