/- The reference's Order of integers of two words (sewershedref03): what it returns; nothing that was there is turned. -/
import Derived.Test.YtgflgnbbkhikcaaDoorRf3S
namespace Go.Proofs.YtgflgnbbkhikcaaDoor
open Go.RowKit

theorem keepsA (w' : World) : ∀ o b i v, w'.cell? ⟨b, i, none⟩ = some v → (w'.alloc o).cell? ⟨b, i, none⟩ = some v := fun o b i v hc => by
  rw [World.cell?_alloc_lt _ _ _ (lt_of_cell hc)]
  exact hc
theorem drewS (W : World) : W.drew.heap.size = W.heap.size := rfl
def OrdPost (x y : Int) (w : World) (e : Ending) (w' : World) : Prop := (∃ k : Int, e = .returned (.int .i64 k) ∧ (k < 0 ↔ x < y) ∧ (0 < k ↔ y < x)) ∧ Below w.heap.size w w'
theorem ord_lt {x y : Int} (c : x < y) : decide (x - y < 0) = true := decide_eq_true (by omega)
theorem ord_ge {x y : Int} (c : y ≤ x) : decide (x - y < 0) = false := decide_eq_false (by omega)
theorem ord_z {x y : Int} (c : x = y) : (x - y).natAbs = 0 := by omega
theorem ord_nz {x y : Int} (c : y < x) : ¬ (x - y).natAbs = 0 := by omega
theorem ordp_lt {x y : Int} {w W : World} (c : x < y) (hW : Below w.heap.size w W) : OrdPost x y w (.returned (.int .i64 (-1))) W := ⟨⟨-1, rfl, ⟨fun _ => c, fun _ => by decide⟩, ⟨fun h => absurd h (by decide), fun h => by omega⟩⟩, hW⟩
theorem ordp_eq {x y : Int} {w W : World} (c : x = y) (hW : Below w.heap.size w W) : OrdPost x y w (.returned (.int .i64 0)) W := ⟨⟨0, rfl, ⟨fun h => absurd h (by decide), fun h => by omega⟩, ⟨fun h => absurd h (by decide), fun h => by omega⟩⟩, hW⟩
theorem ordp_gt {x y : Int} {w W : World} (c : y < x) (hW : Below w.heap.size w W) : OrdPost x y w (.returned (.int .i64 1)) W := ⟨⟨1, rfl, ⟨fun h => absurd h (by decide), fun h => by omega⟩, ⟨fun _ => c, fun _ => by decide⟩⟩, hW⟩
set_option maxRecDepth 100000 in
set_option maxHeartbeats 4000000 in
theorem n3order {h l h' l' : Nat} {s s' : Bool} {x y : Int} (hx : Nm h l s x) (hy : Nm h' l' s' y) (hb : x.natAbs + y.natAbs < 340282366920938463463374607431768211456) (w : World) :
    Calls Tryd.prog 67 #[Nd h l s, Nd h' l' s'] w (OrdPost x y w) := by
  have X := ((Own.start w).alloc #[.int .u64 (h : Int), .int .u64 (l : Int), .bool s] 59).alloc #[.int .u64 (h' : Int), .int .u64 (l' : Int), .bool s'] 59
  simp only [World.size_alloc] at X
  have O1 := hide (fun W => n3opp hy W)
  have HX0 := hide hx
  have hb' : x.natAbs + (-y).natAbs < 340282366920938463463374607431768211456 := by omega
  have HB := hide hb'
  have e3 : Hid (x + -y = x - y) := hide (by omega)
  clear hb hb' hx hy
  have hr := X.r2
  have HX := hide X
  clear X
  have n0 : ¬ (w.heap.size = w.heap.size + 1 + 1) := by clear hr; omega
  have n1 : ¬ (w.heap.size + 1 + 1 = w.heap.size) := by clear hr; omega
  go_enter Tryd.func67, Tryd.ntmps67
  go_wp2_with fail
  go_region_held3 (fun w' => w'.cell? ⟨w.heap.size, 0, none⟩ = some (.int .u64 (h : Int)) ∧ w'.cell? ⟨w.heap.size, 1, none⟩ = some (.int .u64 (l : Int)) ∧ w'.cell? ⟨w.heap.size, 2, none⟩ = some (.bool s) ∧
      w'.cell? ⟨w.heap.size + 1, 0, none⟩ = some (.int .u64 (h' : Int)) ∧ w'.cell? ⟨w.heap.size + 1, 1, none⟩ = some (.int .u64 (l' : Int)) ∧ w'.cell? ⟨w.heap.size + 1, 2, none⟩ = some (.bool s')) (go_keep)
    (first
      | (go_at_call 66; ((with_reducible refine (O1.out _).mono ?_); rintro e w1 ⟨⟨oh, ol, os, rfl, ho⟩, hb⟩); have nn1 : w.heap.size + 1 < w1.heap.size := (by have hz := hb.size; (try simp at hz); omega); have mm1 : ¬ w1.heap.size = w.heap.size ∧ ¬ w1.heap.size = w.heap.size + 1 := (by omega); have S1 := hide (fun W => n3sum HX0.out ho HB.out W); (first | (replace HX := hide (HX.out.to hb)) | (replace HX := hide (HX.out.drew.to hb)) | (replace HX := hide ((HX.out.alloc _ _).to hb)) | (replace HX := hide ((HX.out.drew.alloc _ _).to hb))); have hk := keeps hb; clear hb ho)
      | (go_at_call 79; ((with_reducible refine (S1.out _).mono ?_); rintro e w2 ⟨⟨dh, dl, ds, rfl, hd⟩, hb⟩); have nn2 : w.heap.size + 1 < w2.heap.size := (by have hz := hb.size; (try simp at hz); omega); have mm2 : ¬ w2.heap.size = w.heap.size ∧ ¬ w2.heap.size = w.heap.size + 1 := (by omega); have HD := hide hd; (first | (replace HX := hide (HX.out.to hb)) | (replace HX := hide (HX.out.drew.to hb)) | (replace HX := hide ((HX.out.alloc _ _).to hb)) | (replace HX := hide ((HX.out.drew.alloc _ _).to hb))); have hk2 := keeps hb; have hka2 := keepsA w2; (first | have hr2 := HX.out.r3 | have hr2 := HX.out.r2); (try simp only [World.size_alloc, drewS] at hr2); clear hb hd))
  all_goals
    obtain ⟨hw, hs⟩ := HD.out
    rw [e3.out] at hw hs
    have zz := wd_zero hw
    have BX := HX.out.1
    clear hr HX
    rcases Int.lt_trichotomy x y with c | c | c
    · have : ds = true := hs.trans (ord_lt c)
      subst this
      have P := hide (fun W (hW : Below w.heap.size w W) => ordp_lt c hW)
      clear hs zz hw c
      go_wp2
      go_ret
      exact P.out _ (by have HX := BX; have hz := HX.size; go_grown)
    · have : ds = false := hs.trans (ord_ge (Int.le_of_eq c.symm))
      subst this
      obtain ⟨rfl, rfl⟩ := zz.2 (ord_z c)
      have P := hide (fun W (hW : Below w.heap.size w W) => ordp_eq c hW)
      clear hs zz hw c
      go_wp2
      go_ret
      exact P.out _ (by have HX := BX; have hz := HX.size; go_grown)
    · have : ds = false := hs.trans (ord_ge (Int.le_of_lt c))
      subst this
      have nz : ¬ (dh = 0 ∧ dl = 0) := fun h => ord_nz c (zz.1 h)
      have P := hide (fun W (hW : Below w.heap.size w W) => ordp_gt c hW)
      clear hs zz hw c
      go_wp2
      all_goals go_ret
      all_goals exact P.out _ (by have HX := BX; have hz := HX.size; go_grown)
end Go.Proofs.YtgflgnbbkhikcaaDoor
