/- Place(v, 20) is one number below 20: v's remainder, raised by 20 if it is below 0. Condition: none. -/
import Derived.Test.YtbpckpeddloadaaGreatRows
import Derived.WalkKit
import Derived.ProofKit
import Derived.Below
namespace Go.Proofs.YtbpckpeddloadaaGreat
open Go.RowKit
def placeOf (a : Int) : Int := if a.tmod 20 < 0 then a.tmod 20 + 20 else a.tmod 20
theorem placeOf_lt (a : Int) : 0 ≤ placeOf a ∧ placeOf a < 20 := by
  unfold placeOf
  have h1 := Int.tmod_lt_of_pos a (show (0 : Int) < 20 by decide)
  have h2 : -20 < a.tmod 20 := by
    by_cases h : a < 0
    · have := Int.tmod_lt_of_pos (-a) (show (0 : Int) < 20 by decide)
      rw [Int.neg_tmod] at this
      omega
    · have := Int.tmod_nonneg 20 (show 0 ≤ a by omega)
      omega
  split <;> omega
set_option maxHeartbeats 400000 in
theorem place_any (a : Int) (w : World) : Calls Tryz.prog 5 #[.int .i64 a, .int .i64 20] w fun e w' => e = .returned (.int .i64 (placeOf a)) ∧ w = w' := by
  have hlt := placeOf_lt a
  by_cases h : a.tmod 20 < 0
  · have e0 : placeOf a = a.tmod 20 + 20 := by unfold placeOf; rw [if_pos h]
    rw [e0] at hlt ⊢
    generalize hr : a.tmod 20 = r at *
    go_enter Tryz.func5, Tryz.ntmps5
    go_wp2
    go_ret
    exact ⟨rfl, rfl⟩
  · have e0 : placeOf a = a.tmod 20 := by unfold placeOf; rw [if_neg h]
    rw [e0] at hlt ⊢
    generalize hr : a.tmod 20 = r at *
    go_enter Tryz.func5, Tryz.ntmps5
    go_wp2
    go_ret
    exact ⟨rfl, rfl⟩
end Go.Proofs.YtbpckpeddloadaaGreat
