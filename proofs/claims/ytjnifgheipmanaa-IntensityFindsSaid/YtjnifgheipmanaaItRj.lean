/- The reference's Duration. -/
import Derived.Test.YtjnifgheipmanaaItRi
namespace Go.Proofs.Ytjnifgheipmanaa
open Go.RowKit

/-- what a search returns: none, or the first number at which the level is reached -/
def RF (p q first depth : Int) (lo hi : Int → Int) (w : World) (e : Ending) (w' : World) : Prop :=
  ((lo q < depth ∧ e = .returned (.tuple #[Sv 0 0, .int .i64 12])) ∨ (∃ H, p ≤ H ∧ H ≤ q ∧ depth ≤ lo H ∧ (∀ m, p ≤ m → m < H → lo m < depth) ∧ e = .returned (.tuple #[Sv (spLo (lo H) (hi H) depth H first) H, .int .i64 0]))) ∧ Below w.heap.size w w'
theorem RF.no {p q first depth : Int} {lo hi : Int → Int} {w w' : World} (h : lo q < depth) (hb : Below w.heap.size w w') : RF p q first depth lo hi w (.returned (.tuple #[Sv 0 0, .int .i64 12])) w' := ⟨.inl ⟨h, rfl⟩, hb⟩
theorem RF.yes {p q first depth : Int} {lo hi : Int → Int} {w w' : World} {H x : Int} (h1 : p ≤ H) (h2 : H ≤ q) (h3 : depth ≤ lo H) (h4 : ∀ m, p ≤ m → m < H → lo m < depth) (hx : spLo (lo H) (hi H) depth H first = x) (hb : Below w.heap.size w w') :
    RF p q first depth lo hi w (.returned (.tuple #[Sv x H, .int .i64 0])) w' := ⟨.inr ⟨H, h1, h2, h3, h4, by rw [hx]⟩, hb⟩
theorem field_lo (a b : Int) (W : World) : Sem.run Try.prog (Instr.field 29 (Sv a b) 0) W = Result.ok (.int .i64 a) W := by kernel_rfl
set_option maxRecDepth 100000 in
set_option maxHeartbeats 8000000 in
theorem rfdur_any (T : Tab) (a : TabA) (depth y : Int) (w : World) (ht : TabSl w T a) (v : VT T) (hy : inL T.ps y = true) :
    Calls Try.prog 20 #[T.val a, .int .i64 depth, .int .i64 y] w (RF (T.ds.getD 0 0) (T.ds.getD (T.ds.length - 1) 0) (T.ds.getD 0 0) depth (fun m => loT T m y) (fun m => hiT T m y) w) := by
  have X := ((Own.start w).alloc (T.cells a) 25).alloc #[.int .i64 0, .int .i64 0] 29
  simp only [World.size_alloc] at X
  have C := hide (fun x W (hB : Below w.heap.size w W) (hx : inL T.ds x = true) => rfdepth_any T a x y W (ht.below hB) v ⟨hx, hy⟩)
  have IN := hide (fun x (h1 : T.ds.getD 0 0 ≤ x) (h2 : x ≤ T.ds.getD (T.ds.length - 1) 0) => (inL_iff (l := T.ds) (x := x)).2 ⟨h1, h2⟩)
  have MO := hide (fun x x' (h : inL T.ds x = true) (h' : inL T.ds x' = true) (hle : x ≤ x') => (loT_mono v (x := x) (x' := x') (y := y) (y' := y) ⟨h, hy⟩ ⟨h', hy⟩ hle (Int.le_refl _)).1)
  obtain ⟨A1, A2, A3, k1, k2, k3⟩ := a
  obtain ⟨b, off, e1, hbl, hat⟩ := ht.1.at_ (by have := v.d1; omega)
  simp only at e1
  subst e1
  have d1 := v.d1
  have d2 := v.d2
  have p0 := v.dB 0 (by omega)
  have p1 := v.dB (T.ds.length - 1) (by omega)
  have pq : T.ds.getD 0 0 ≤ T.ds.getD (T.ds.length - 1) 0 := v.dA.le (Nat.zero_le _) (by omega)
  have c0 := (X.1.cell (p := ⟨b, off + 0, none⟩) hbl).trans (hat 0 (by omega))
  have c1 := (X.1.cell (p := ⟨b, off + (T.ds.length - 1), none⟩) hbl).trans (hat (T.ds.length - 1) (by omega))
  rw [Nat.add_zero] at c0
  clear hat ht v hy
  generalize T.ds.getD 0 0 = p at *
  generalize T.ds.getD (T.ds.length - 1) 0 = q at *
  have z1 : IntKind.i64.wrap ((T.ds.length : Int) - 1) = ((T.ds.length - 1 : Nat) : Int) := (IntWalk.i64_in ((T.ds.length : Int) - 1) (by omega)).trans (by omega)
  have z2 : ((T.ds.length - 1 : Nat) : Int) < (T.ds.length : Int) := by omega
  have z3 : (0 : Int) < (T.ds.length : Int) := by omega
  generalize T.ds.length - 1 = j at *
  have hr := X.r2
  go_enter Try.func20, Try.ntmps20
  go_wp2
  go_quiet (fail)
  go_wp2_with fail
  have X1 := X.drewN' nq
  clear hr X c0 c1
  have hr := X1.r2
  generalize World.drewN _ nq = W at *
  refine (C.out q _ X1.1 (IN.out q pq (Int.le_refl _))).mono ?_
  rintro e w1 ⟨rfl, hb⟩
  replace X1 := X1.to hb
  clear hb hr
  have hr := X1.r2
  have FL := field_lo (loT T q y) (hiT T q y)
  by_cases t : loT T q y < depth
  · go_wp2
    exact bodyPost_ret (v := .tuple #[Sv 0 0, .int .i64 12]) (by simp [results, Try.results20, hr, go_sem]) rfl (RF.no t (by have HX := X1.1; have hz := HX.size; go_grown))
  have QH := hide (show depth ≤ loT T q y by omega)
  have X2 := hide X1
  clear hr X1
  go_wp2
  go_loopw [10, 11, 12] (fun v10 v11 v12 Wr => ∃ lo hi : Int, v10 = .int .i64 lo ∧ v11 = .int .i64 hi ∧ v12 = v12 ∧ p - 1 ≤ lo ∧ lo < hi ∧ hi ≤ q ∧ Hid (depth ≤ loT T hi y ∧ ∀ m, p ≤ m → m ≤ lo → loT T m y < depth) ∧
      Own w Wr [(w.heap.size + 1, 29, #[.int .i64 0, .int .i64 0]), (w.heap.size, 25, #[.slice (some ⟨b, off, none⟩) T.ds.length k1, .slice A2 T.ps.length k2, .slice A3 T.rows.length k3])])
    (fun v10 v11 _ _ => (intOf v11 - intOf v10).toNat)
  case atStart => exact ⟨p - 1, q, by go_num, rfl, rfl, by omega, by omega, Int.le_refl _, hide ⟨QH.out, fun m h1 h2 => by omega⟩, X2.out⟩
  case round =>
    obtain ⟨lo, hi, rfl, rfl, _, h1, h2, h3, hc, Y⟩ := hrel
    clear X2
    have y1 := IntWalk.i64_in (hi - lo) (by omega)
    by_cases g : 1 < hi - lo
    · have y2 := IntWalk.i64_in (lo + hi) (by omega)
      have y3 : (lo + hi).tdiv 2 = (lo + hi) / 2 := Int.tdiv_eq_ediv_of_nonneg (by omega)
      have y4 := IntWalk.i64_in ((lo + hi) / 2) (by omega)
      have g1 : lo < (lo + hi) / 2 ∧ (lo + hi) / 2 < hi := by omega
      obtain ⟨m, hm⟩ : ∃ m, m = (lo + hi) / 2 := ⟨_, rfl⟩
      rw [← hm] at y3 y4 g1
      have y5 := IntWalk.i64_in ((lo + hi).tdiv 2) (by rw [y3]; omega)
      replace hm := hm.symm
      have hr := Y.r2
      go_wp2_with fail
      refine (C.out m _ Y.1 (IN.out m (by omega) (by omega))).mono ?_
      rintro e w2 ⟨rfl, hb⟩
      replace Y := Y.to hb
      clear hb hr
      have hr := Y.r2
      have FL := field_lo (loT T m y) (hiT T m y)
      by_cases t2 : depth ≤ loT T m y
      · have HY := hide Y
        have HT := hide t2
        clear Y
        go_wp2
        go_roundw
        case rel => exact ⟨lo, m, by go_num, by go_num, trivial, h1, g1.1, by omega, hide ⟨HT.out, hc.out.2⟩, HY.out⟩
        case measure => simp [intOf]; omega
      · have HY := hide Y
        have HT := hide t2
        clear Y
        go_wp2
        go_roundw
        case rel => exact ⟨m, hi, by go_num, by go_num, trivial, by omega, g1.2, h3, hide ⟨hc.out.1, fun m' k1 k2 => Int.lt_of_le_of_lt (MO.out m' m (IN.out m' k1 (by omega)) (IN.out m (by omega) (by omega)) k2) HT.out⟩, HY.out⟩
        case measure => simp [intOf]; omega
    · have e : hi = lo + 1 := by omega
      have HE := hide e
      clear e
      have hr := Y.r2
      go_wp2_with fail
      refine (C.out hi _ Y.1 (IN.out hi (by omega) (by omega))).mono ?_
      rintro e w2 ⟨rfl, hb⟩
      replace Y := Y.to hb
      clear hb hr
      go_wp2_with fail
      refine (rfspan_any _ _ depth hi p _ (by omega) (by omega)).mono ?_
      rintro e w3 ⟨rfl, hb⟩
      replace Y := Y.to hb
      clear hb
      have hr := Y.r2
      obtain ⟨sp, hsp⟩ : ∃ sp, spLo (loT T hi y) (hiT T hi y) depth hi p = sp := ⟨_, rfl⟩
      rw [hsp]
      have HS := hide hsp
      clear hsp
      go_wp2
      exact bodyPost_ret (v := .tuple #[Sv sp hi, .int .i64 0]) (by simp [results, Try.results20, hr, go_sem]) rfl (RF.yes (by omega) h3 hc.out.1 (fun m k1 k2 => hc.out.2 m k1 (by have := HE.out; omega)) HS.out (by have HX := Y.1; have hz := HX.size; go_grown))
end Go.Proofs.Ytjnifgheipmanaa
