/-
  The iterator of an id's bytes, and 'over', which ranges over it.
-/
import Derived.RangeFuncNested
import Derived.RangeFuncBound
import Derived.RangeFuncCalls
import Derived.RangeFuncLeaves
import Derived.Shelf.Abstract
import Derived.Shelf.RegionOpen
import Derived.WalkKit
import Derived.OwnWalkIn
import Derived.TacticsInMore
import Derived.LoopNIn
import Derived.LoopIn
import Derived.Test.YtjefgnkekodljaaSmall
namespace Go.Proofs.Ytjefgnkekodljaa
open Go.RowKit Go.Shelf

attribute [local go_sem] Oper.semAt_some

/-- The iterator's two boxes hold what they held. -/
def KpB (Bi Bu : Nat) (A B : World) : Prop := B.cell? ⟨Bi, 0, none⟩ = A.cell? ⟨Bi, 0, none⟩ ∧ B.cell? ⟨Bu, 0, none⟩ = A.cell? ⟨Bu, 0, none⟩
theorem KpB.trans {Bi Bu : Nat} {A B C : World} (h : KpB Bi Bu A B) (k : KpB Bi Bu B C) : KpB Bi Bu A C := ⟨k.1.trans h.1, k.2.trans h.2⟩
/-- A block other than the two is turned. -/
theorem KpB.put {Bi Bu : Nat} (W : World) (l : Nat) (o : Obj) (hi : Bi < l) (hu : Bu < l) : KpB Bi Bu W (W.putObj l o) :=
  ⟨World.cell?_of_block (w := W) (World.putObj_heap_other (by simp; omega)), World.cell?_of_block (w := W) (World.putObj_heap_other (by simp; omega))⟩

set_option maxRecDepth 100000 in
set_option maxHeartbeats 2000000 in
/-- The bytes from the lowest one on. -/
theorem iter_up (F : Fence) (n : Nat) (h26 : F.fn 26) (hro : F.round = none) (hn : 1 ≤ n) (l Bi Bu : Nat) (id : Int) (J Jx : List Int → World → Prop)
    (hY : ∀ pre x W, J pre W → pre.length < 8 → YieldAt F (n - 1) Try.prog l #[.int .u64 x] W fun e W' =>
      (e = .returned (.bool true) ∧ J (pre ++ [x]) W' ∧ KpB Bi Bu W W') ∨ (e = .returned (.bool false) ∧ Jx (pre ++ [x]) W'))
    (W : World) (hBi : W.cell? ⟨Bi, 0, none⟩ = some (.int .u64 id)) (hBu : W.cell? ⟨Bu, 0, none⟩ = some (.bool true)) (h0 : J [] W) :
    CallsIn F n Try.prog 26 #[.func (.yield l) #[] #[], .pointer (some ⟨Bu, 0, none⟩), .pointer (some ⟨Bi, 0, none⟩)] W fun e W' => (∃ v, e = .returned v) ∧
      ((∃ ys, ys = upto (byt id) 8 ∧ J ys W') ∨ (∃ pre, True ∧ Jx pre W')) := by
  refine callsIn_of_wp Try.func26 rfl h26 ?_ hro
  simp only [Try.ntmps26, List.size_toArray, List.length_cons, List.length_nil, Nat.reduceAdd, Nat.reduceSub, Array.replicate_succ, Array.replicate_zero, List.push_toArray, List.append_toArray, List.nil_append, List.cons_append]
  gi_wp2
  gi_loopw [5] (fun i wr => ∃ k : Nat, k ≤ 8 ∧ i = .int .i64 k ∧ J (upto (byt id) k) wr ∧ KpB Bi Bu W wr)
    (fun i _ => 8 - (intOf i).toNat)
  case atStart => exact ⟨0, Nat.zero_le _, rfl, h0, rfl, rfl⟩
  case round =>
    obtain ⟨k, hk, rfl, hJs, hnx⟩ := hrel
    have hci : wr.cell? ⟨Bi, 0, none⟩ = some (.int .u64 id) := hnx.1.trans hBi
    have hcu : wr.cell? ⟨Bu, 0, none⟩ = some (.bool true) := hnx.2.trans hBu
    by_cases hlt : k < 8
    · obtain ⟨fn, tmps, assign, body, hy, hR⟩ := hY _ (byt id k) wr hJs (by rw [upto_length]; exact hlt)
      unfold byt at hy
      gi_wp2
      refine hR.mono ?_
      rintro e W3 (⟨rfl, hJ3, hk3⟩ | ⟨rfl, hJx3⟩)
      · gi_wp2
        go_roundw
        case rel => exact ⟨k + 1, by omega, by simp, by rw [upto_succ]; exact hJ3, hnx.trans hk3⟩
        case measure => simp [intOf]; omega
      · gi_wp2
        refine bodyPost_ret (results_none rfl _ _ _) rfl ?_
        exact ⟨⟨_, rfl⟩, .inr ⟨_, trivial, hJx3⟩⟩
    · obtain rfl : k = 8 := by omega
      gi_wp2
      go_end0
      exact ⟨⟨_, rfl⟩, .inl ⟨_, rfl, hJs⟩⟩

set_option maxRecDepth 100000 in
set_option maxHeartbeats 2000000 in
/-- The bytes from the highest one on. -/
theorem iter_down (F : Fence) (n : Nat) (h26 : F.fn 26) (hro : F.round = none) (hn : 1 ≤ n) (l Bi Bu : Nat) (id : Int) (J Jx : List Int → World → Prop)
    (hY : ∀ pre x W, J pre W → pre.length < 8 → YieldAt F (n - 1) Try.prog l #[.int .u64 x] W fun e W' =>
      (e = .returned (.bool true) ∧ J (pre ++ [x]) W' ∧ KpB Bi Bu W W') ∨ (e = .returned (.bool false) ∧ Jx (pre ++ [x]) W'))
    (W : World) (hBi : W.cell? ⟨Bi, 0, none⟩ = some (.int .u64 id)) (hBu : W.cell? ⟨Bu, 0, none⟩ = some (.bool false)) (h0 : J [] W) :
    CallsIn F n Try.prog 26 #[.func (.yield l) #[] #[], .pointer (some ⟨Bu, 0, none⟩), .pointer (some ⟨Bi, 0, none⟩)] W fun e W' => (∃ v, e = .returned v) ∧
      ((∃ ys, ys = upto (fun k => byt id (7 - k)) 8 ∧ J ys W') ∨ (∃ pre, True ∧ Jx pre W')) := by
  refine callsIn_of_wp Try.func26 rfl h26 ?_ hro
  simp only [Try.ntmps26, List.size_toArray, List.length_cons, List.length_nil, Nat.reduceAdd, Nat.reduceSub, Array.replicate_succ, Array.replicate_zero, List.push_toArray, List.append_toArray, List.nil_append, List.cons_append]
  gi_wp2
  gi_loopw [5] (fun i wr => ∃ k : Nat, k ≤ 8 ∧ i = .int .i64 k ∧ J (upto (fun k => byt id (7 - k)) k) wr ∧ KpB Bi Bu W wr)
    (fun i _ => 8 - (intOf i).toNat)
  case atStart => exact ⟨0, Nat.zero_le _, rfl, h0, rfl, rfl⟩
  case round =>
    obtain ⟨k, hk, rfl, hJs, hnx⟩ := hrel
    have hci : wr.cell? ⟨Bi, 0, none⟩ = some (.int .u64 id) := hnx.1.trans hBi
    have hcu : wr.cell? ⟨Bu, 0, none⟩ = some (.bool false) := hnx.2.trans hBu
    by_cases hlt : k < 8
    · obtain ⟨fn, tmps, assign, body, hy, hR⟩ := hY _ (byt id (7 - k)) wr hJs (by rw [upto_length]; exact hlt)
      unfold byt at hy
      gi_wp2
      refine hR.mono ?_
      rintro e W3 (⟨rfl, hJ3, hk3⟩ | ⟨rfl, hJx3⟩)
      · gi_wp2
        go_roundw
        case rel => exact ⟨k + 1, by omega, by simp, by rw [upto_succ]; exact hJ3, hnx.trans hk3⟩
        case measure => simp [intOf]; omega
      · gi_wp2
        refine bodyPost_ret (results_none rfl _ _ _) rfl ?_
        exact ⟨⟨_, rfl⟩, .inr ⟨_, trivial, hJx3⟩⟩
    · obtain rfl : k = 8 := by omega
      gi_wp2
      go_end0
      exact ⟨⟨_, rfl⟩, .inl ⟨_, rfl, hJs⟩⟩
end Go.Proofs.Ytjefgnkekodljaa
