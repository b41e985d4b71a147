/-
  Slot, Probe, and the document's Probe: what each call answers, case by case.
-/
import Derived.Test.YtjefgnkekodljaaOver
namespace Go.Proofs.Ytjefgnkekodljaa
open Go.RowKit

theorem ret_ints {a b c d : Int} (h : a = b) (h' : c = d) : Ending.returned (.tuple #[.int .i64 a, .int .i64 c]) = .returned (.tuple #[.int .i64 b, .int .i64 d]) := by rw [h, h']
theorem mod_lo {h many : Int} (hm : 1 ≤ many) : 0 ≤ h % many := Int.emod_nonneg h (by omega)
theorem mod_hi {h many : Int} (hm : 1 ≤ many) : h % many < many := Int.emod_lt_of_pos h (by omega)

set_option maxHeartbeats 400000 in
theorem slot_no (h many : Int) (w : World) (hm : many < 1) :
    Calls Try.prog 9 #[.int .u64 h, .int .i64 many] w fun e w' => e = .returned (.tuple #[.int .i64 0, .int .i64 2]) ∧ w = w' := by
  go_enter Try.func9, Try.ntmps9
  go_wp2
  go_ret2
  exact ⟨rfl, rfl⟩

set_option maxHeartbeats 400000 in
theorem slot_yes (h many : Int) (w : World) (hm : 1 ≤ many) (hx : many ≤ 9223372036854775807) (h0 : 0 ≤ h) :
    Calls Try.prog 9 #[.int .u64 h, .int .i64 many] w fun e w' => e = .returned (.tuple #[.int .i64 (h % many), .int .i64 0]) ∧ w = w' := by
  have b1 := mod_lo (h := h) hm
  have b2 := mod_hi (h := h) hm
  go_enter Try.func9, Try.ntmps9
  go_wp2
  go_ret2
  exact ⟨rfl, rfl⟩

/-- The slot so many turns from a hash's. -/
def probeF (h many turn : Int) : Int := (h % many + turn % many) % many

set_option maxHeartbeats 400000 in
theorem probe_low (h many turn : Int) (w : World) (hm : many < 1) :
    Calls Try.prog 10 #[.int .u64 h, .int .i64 many, .int .i64 turn] w fun e w' => e = .returned (.tuple #[.int .i64 0, .int .i64 2]) ∧ w = w' := by
  go_enter Try.func10, Try.ntmps10
  go_wp2_with (go_at_call 9; refine (slot_no _ _ _ hm).mono ?_; rintro e w' ⟨rfl, rfl⟩)
  go_ret2
  exact ⟨rfl, rfl⟩

set_option maxHeartbeats 400000 in
theorem probe_high (h many turn : Int) (w : World) (hm : 1099511627776 < many) (hx : many ≤ 9223372036854775807) (h0 : 0 ≤ h) :
    Calls Try.prog 10 #[.int .u64 h, .int .i64 many, .int .i64 turn] w fun e w' => e = .returned (.tuple #[.int .i64 0, .int .i64 2]) ∧ w = w' := by
  go_enter Try.func10, Try.ntmps10
  go_wp2_with (go_at_call 9; refine (slot_yes _ _ _ (by omega) hx h0).mono ?_; rintro e w' ⟨rfl, rfl⟩)
  go_ret2
  exact ⟨rfl, rfl⟩

set_option maxHeartbeats 400000 in
theorem probe_neg (h many turn : Int) (w : World) (hm : 1 ≤ many) (hx : many ≤ 1099511627776) (h0 : 0 ≤ h) (ht : turn < 0) :
    Calls Try.prog 10 #[.int .u64 h, .int .i64 many, .int .i64 turn] w fun e w' => e = .returned (.tuple #[.int .i64 0, .int .i64 2]) ∧ w = w' := by
  go_enter Try.func10, Try.ntmps10
  go_wp2_with (go_at_call 9; refine (slot_yes _ _ _ hm (by omega) h0).mono ?_; rintro e w' ⟨rfl, rfl⟩)
  go_ret2
  exact ⟨rfl, rfl⟩

set_option maxHeartbeats 400000 in
theorem probe_yes (h many turn : Int) (w : World) (hm : 1 ≤ many) (hx : many ≤ 1099511627776) (h0 : 0 ≤ h) (ht : 0 ≤ turn) :
    Calls Try.prog 10 #[.int .u64 h, .int .i64 many, .int .i64 turn] w fun e w' => e = .returned (.tuple #[.int .i64 (probeF h many turn), .int .i64 0]) ∧ w = w' := by
  have b1 := mod_lo (h := h) hm
  have b2 := mod_hi (h := h) hm
  have b3 := mod_lo (h := turn) hm
  have b4 := mod_hi (h := turn) hm
  go_enter Try.func10, Try.ntmps10
  go_wp2_with (go_at_call 9; refine (slot_yes _ _ _ hm (by omega) h0).mono ?_; rintro e w' ⟨rfl, rfl⟩)
  go_ret2
  exact ⟨rfl, rfl⟩

set_option maxHeartbeats 400000 in
theorem refProbe_yes (h many turn : Int) (w : World) (hm : 1 ≤ many) (hx : many ≤ 1099511627776) (h0 : 0 ≤ h) (ht : 0 ≤ turn) :
    Calls Try.prog 11 #[.int .u64 h, .int .i64 many, .int .i64 turn] w fun e w' => e = .returned (.int .i64 (probeF h many turn)) ∧ w = w' := by
  have b1 := mod_lo (h := h) hm
  have b2 := mod_hi (h := h) hm
  have b3 := mod_lo (h := turn) hm
  have b4 := mod_hi (h := turn) hm
  go_enter Try.func11, Try.ntmps11
  go_wp2
  go_ret
  exact ⟨rfl, rfl⟩
end Go.Proofs.Ytjefgnkekodljaa
