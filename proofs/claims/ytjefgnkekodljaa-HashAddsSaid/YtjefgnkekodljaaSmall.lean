/-
  The small functions of package hash: what each call does, as a contract.
-/
import Derived.Test.YtjefgnkekodljaaRows
import Derived.WalkKit
import Derived.Test.YtjefgnkekodljaaPlain
import Derived.WalkSpells
namespace Go.Proofs.Ytjefgnkekodljaa
open Go.RowKit

/-- How many rounds are left behind a number that the ring holds. -/
def leftOf : Value → Nat
  | .int _ n => if n = 17822581009352754363 then 5 else if n = 4138864268038235515 then 4 else if n = 2867680748993156475 then 3 else if n = 7916009107578328443 then 2 else 1
  | _ => 0

section
attribute [local go_sem] IntKind.wrap_u64
set_option maxRecDepth 1000000 in
set_option maxHeartbeats 400000 in
theorem undoes_any (w : World) :
    Calls Try.prog 25 #[] w fun e w' => e = .returned (.int .u64 14886173955864302971) ∧ w = w' := by
  go_enter Try.func25, Try.ntmps25
  go_wp2
  refine wp_scope_jumps 0 (fun a' w' => w' = w ∧ ∃ (v : Int) (u2 u3 u4 u5 u6 u7 u8 u9 u10 : Value), a' = { tmps := #[.int .u64 0, .int .u64 v, u2, u3, u4, u5, u6, u7, u8, u9, u10, undef], defers := [] } ∧
      (v = 17822581009352754363 ∨ v = 4138864268038235515 ∨ v = 2867680748993156475 ∨ v = 7916009107578328443 ∨ v = 14886173955864302971)) (fun a' _ => leftOf (a'.tmps.getD 1 undef)) rfl ?_ ?_
  · go_wp2
    go_step3
    go_wp2
    go_step3
    exact ⟨rfl, rfl, _, _, _, _, _, _, _, _, _, _, rfl, .inl rfl⟩
  · rintro a' w' ⟨rfl, v, u2, u3, u4, u5, u6, u7, u8, u9, u10, rfl, rfl | rfl | rfl | rfl | rfl⟩
    · go_wp2
      go_step3
      exact ⟨rfl, ⟨rfl, _, _, _, _, _, _, _, _, _, _, rfl, .inr (.inl rfl)⟩, by simp [leftOf]⟩
    · go_wp2
      go_step3
      exact ⟨rfl, ⟨rfl, _, _, _, _, _, _, _, _, _, _, rfl, .inr (.inr (.inl rfl))⟩, by simp [leftOf]⟩
    · go_wp2
      go_step3
      exact ⟨rfl, ⟨rfl, _, _, _, _, _, _, _, _, _, _, rfl, .inr (.inr (.inr (.inl rfl)))⟩, by simp [leftOf]⟩
    · go_wp2
      go_step3
      exact ⟨rfl, ⟨rfl, _, _, _, _, _, _, _, _, _, _, rfl, .inr (.inr (.inr (.inr rfl)))⟩, by simp [leftOf]⟩
    · go_wp2
      simp only [Exit.jump]
      go_ret
      exact ⟨rfl, rfl⟩
end

set_option maxHeartbeats 400000 in
theorem adds_any (h b : Int) (w : World) :
    Calls Try.prog 20 #[.int .u64 h, .int .u64 b] w fun e w' => e = .returned (.int .u64 (stepA h b)) ∧ w = w' := by
  go_enter Try.func20, Try.ntmps20
  go_wp2
  go_ret
  exact ⟨rfl, rfl⟩

set_option maxHeartbeats 400000 in
theorem back_any (w : World) :
    Calls Try.prog 22 #[] w fun e w' => e = .returned (.int .u64 14886173955864302971) ∧ w = w' := by
  go_enter Try.func22, Try.ntmps22
  go_wp2_with (go_at_call 25; refine (undoes_any _).mono ?_; rintro e w' ⟨rfl, rfl⟩)
  go_ret
  exact ⟨rfl, rfl⟩

set_option maxHeartbeats 400000 in
theorem backs_any (h b : Int) (w : World) :
    Calls Try.prog 21 #[.int .u64 h, .int .u64 b] w fun e w' => e = .returned (.int .u64 (stepB h b)) ∧ w = w' := by
  go_enter Try.func21, Try.ntmps21
  go_wp2_with (go_at_call 22; refine (back_any _).mono ?_; rintro e w' ⟨rfl, rfl⟩)
  go_ret
  exact ⟨rfl, rfl⟩

set_option maxHeartbeats 400000 in
theorem bytes_any (id : Int) (up : Bool) (w : World) :
    Calls Try.prog 24 #[.int .u64 id, .bool up] w fun e w' => e = .returned (.func (.func 26) #[] #[.pointer (some ⟨w.heap.size + 1, 0, none⟩), .pointer (some ⟨w.heap.size, 0, none⟩)]) ∧
      w' = (w.alloc (.cells #[.int .u64 id] 31)).alloc (.cells #[.bool up] 4) := by
  go_enter Try.func24, Try.ntmps24
  go_wp2
  go_ret
  exact ⟨rfl, rfl⟩
end Go.Proofs.Ytjefgnkekodljaa
