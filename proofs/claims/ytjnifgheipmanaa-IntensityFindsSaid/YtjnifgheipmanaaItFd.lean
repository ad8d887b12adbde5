/- The reference's Duration and Period in the words of the program's: FRes; and two such results agree. -/
import Derived.Test.YtjnifgheipmanaaItRk
import Derived.Test.YtjnifgheipmanaaItRv
import Derived.Test.YtjnifgheipmanaaItBack
namespace Go.Proofs.Ytjnifgheipmanaa
open Go.RowKit

theorem FRes.unique {l : List Int} {g : Nat → Int} {wh v lo hi er lo' hi' er' : Int} (hl : Line l g wh) (h : FRes true true l g wh v lo hi er) (k : FRes true true l g wh v lo' hi' er') : lo = lo' ∧ hi = hi' ∧ er = er' := by
  rcases h with ⟨h1, _⟩ | ⟨_, h1, _⟩ | ⟨_, _, h1, h2⟩ | ⟨_, _, h1, h2, h3, h4⟩
  · cases h1
  · cases h1
  all_goals
    rcases k with ⟨k1, _⟩ | ⟨_, k1, _⟩ | ⟨_, _, k1, k2⟩ | ⟨_, _, k1, k2, k3, k4⟩
    · cases k1
    · cases k1
  · exact ⟨(h1.unique k1).1, (h1.unique k1).2, h2.trans k2.symm⟩
  · exact (k1.not hl h1).elim
  · exact (h1.not hl k1).elim
  · exact ⟨h2.trans k2.symm, h3.trans k3.symm, h4.trans k4.symm⟩
theorem rfdur_res (T : Tab) (a : TabA) (v y : Int) (w : World) (ht : TabSl w T a) (h1 : vT T = true) (h2 : inL T.ps y = true) :
    Calls Try.prog 20 #[T.val a, .int .i64 v, .int .i64 y] w (SRes true true T.ds (fun k => (plc T.ps y).val (fun j => T.cell j k)) (plc T.ps y).whole v w) := by
  refine (rfdur_any T a v y w ht (of_vT h1) h2).mono ?_
  rintro e w' ⟨⟨h, rfl⟩ | ⟨H, a1, a2, a3, a4, rfl⟩, hb⟩
  · refine ⟨hb, _, _, _, rfl, .inr (.inr (.inr ⟨rfl, rfl, ?_, rfl, rfl, rfl⟩))⟩
    unfold NoF
    rw [(lineX_lo T _ y).1]; exact h
  · refine ⟨hb, _, _, _, rfl, .inr (.inr (.inl ⟨rfl, rfl, ⟨a1, a2, ?_, fun m k1 k2 => ?_, ?_⟩, rfl⟩))⟩
    · rw [(lineX_lo T H y).1]; exact a3
    · rw [(lineX_lo T m y).1]; exact a4 m k1 k2
    · rw [(lineX_lo T H y).1, (lineX_lo T H y).2]; rfl
theorem rfper_res (T : Tab) (a : TabA) (v x : Int) (w : World) (ht : TabSl w T a) (h1 : vT T = true) (h2 : inL T.ds x = true) :
    Calls Try.prog 21 #[T.val a, .int .i64 x, .int .i64 v] w (SRes true true T.ps (fun j => (plc T.ds x).val (T.cell j)) (plc T.ds x).whole v w) := by
  refine (rfper_any T a x v w ht (of_vT h1) h2).mono ?_
  rintro e w' ⟨⟨h, rfl⟩ | ⟨H, a1, a2, a3, a4, rfl⟩, hb⟩
  · refine ⟨hb, _, _, _, rfl, .inr (.inr (.inr ⟨rfl, rfl, ?_, rfl, rfl, rfl⟩))⟩
    unfold NoF
    rw [(lineY_lo T x _).1]; exact h
  · refine ⟨hb, _, _, _, rfl, .inr (.inr (.inl ⟨rfl, rfl, ⟨a1, a2, ?_, fun m k1 k2 => ?_, ?_⟩, rfl⟩))⟩
    · rw [(lineY_lo T x H).1]; exact a3
    · rw [(lineY_lo T x m).1]; exact a4 m k1 k2
    · rw [(lineY_lo T x H).1, (lineY_lo T x H).2]; rfl
end Go.Proofs.Ytjnifgheipmanaa
