/-
  HashSlots: the slots of hashes, and the slots so many turns from there, are the document's; for every row of hashes, and every two numbers. No condition.
-/
import Derived.Test.YtjefgnkekodljaaRow
import Derived.WalkKit
import Derived.ProofKit
import Derived.OpenShut
import Derived.ShutString
import Derived.ChangeOld
import Derived.Below
namespace Go.Proofs.Ytjefgnkekodljaa.hashSlots
open Go.ChangeShapes Go.WideShapes Go.ChangeAt Go.RowKit
open Go.ChangeMaps (open_string shut_string)
set_option linter.unusedVariables false

theorem own : ownKnob Try.prog.godebug = none := by kernel_rfl
theorem laidOut : laidOutB Try.prog = true := by kernel_rfl

set_option maxHeartbeats 1000000 in
/-- A slot, and so many turns from there. -/
theorem loop_yes (b off cap : Nat) (xs : List Int) (many turn : Int) (w : World) (h0 : 0 < xs.length) (hm : xs.length ≤ maxLen)
    (hcell : ∀ j, j < xs.length → w.cell? ⟨b, off + j, none⟩ = some (.int .u64 (xs[j]?.getD 0))) (hn : ∀ j : Nat, 0 ≤ xs[j]?.getD 0)
    (m1 : 1 ≤ many) (m2 : many ≤ 1099511627776) (t1 : 0 ≤ turn) :
    Calls Try.prog 3 #[.slice (some ⟨b, off, none⟩) xs.length cap, .int .i64 many, .int .i64 turn] w fun e w' => e = .returned (.bool true) ∧ Below w.heap.size w w' := by
  unfold maxLen at hm
  have hbl : b < w.heap.size := block_lt_of_cell (hcell 0 h0)
  go_enter Try.func3, Try.ntmps3
  go_wp2_with (go_at_call 8; refine (wakes_any _).mono ?_; rintro e w1 ⟨rfl, hb1⟩)
  have hcell1 : Hid (∀ j, j < xs.length → w1.cell? ⟨b, off + j, none⟩ = some (.int .u64 (xs[j]?.getD 0))) := fun j hj => (hb1.cell (p := ⟨b, off + j, none⟩) hbl).trans (hcell j hj)
  have hn1 : Hid (∀ j : Nat, 0 ≤ xs[j]?.getD 0) := hn
  clear hcell hn
  go_loop [21] (fun i => ∃ k : Nat, k ≤ xs.length ∧ i = .int .i64 k) (fun i => xs.length - (intOf i).toNat)
  case atStart => exact ⟨0, Nat.zero_le _, rfl⟩
  case round =>
    obtain ⟨k, hk, rfl⟩ := hrel
    by_cases hlt : k < xs.length
    · have hc := hcell1.out k hlt
      have hpos := hn1.out k
      generalize xs[k]?.getD 0 = x at hc hpos
      by_cases h20 : k = 20
      · have h20' : ((k : Int) == 20) = true := by rw [h20]; rfl
        clear h20
        go_wp2
        go_ret
        exact ⟨rfl, hb1⟩
      · have h20' : ((k : Int) == 20) = false := by simpa using (by omega : ¬ (k : Int) = 20)
        clear h20
        have b1 := mod_lo (h := x) m1
        have b2 := mod_hi (h := x) m1
        go_wp2_with (first | (go_at_call 9; refine (slot_yes _ _ _ m1 (by omega) hpos).mono ?_; rintro e w' ⟨rfl, rfl⟩) | (go_at_call 10; refine (probe_yes _ _ _ _ m1 m2 hpos t1).mono ?_; rintro e w' ⟨rfl, rfl⟩) | (go_at_call 11; refine (refProbe_yes _ _ _ _ m1 m2 hpos t1).mono ?_; rintro e w' ⟨rfl, rfl⟩))
        go_round
        case rel => exact ⟨k + 1, by omega, by go_num⟩
        case measure => simp [intOf]; omega
    · obtain rfl : k = xs.length := by omega
      go_wp2
      go_ret
      exact ⟨rfl, hb1⟩

set_option maxHeartbeats 1000000 in
/-- No slot. -/
theorem loop_low (b off cap : Nat) (xs : List Int) (many turn : Int) (w : World) (h0 : 0 < xs.length) (hm : xs.length ≤ maxLen)
    (hcell : ∀ j, j < xs.length → w.cell? ⟨b, off + j, none⟩ = some (.int .u64 (xs[j]?.getD 0))) (hn : ∀ j : Nat, 0 ≤ xs[j]?.getD 0)
    (m1 : many < 1) :
    Calls Try.prog 3 #[.slice (some ⟨b, off, none⟩) xs.length cap, .int .i64 many, .int .i64 turn] w fun e w' => e = .returned (.bool true) ∧ Below w.heap.size w w' := by
  unfold maxLen at hm
  have hbl : b < w.heap.size := block_lt_of_cell (hcell 0 h0)
  go_enter Try.func3, Try.ntmps3
  go_wp2_with (go_at_call 8; refine (wakes_any _).mono ?_; rintro e w1 ⟨rfl, hb1⟩)
  have hcell1 : Hid (∀ j, j < xs.length → w1.cell? ⟨b, off + j, none⟩ = some (.int .u64 (xs[j]?.getD 0))) := fun j hj => (hb1.cell (p := ⟨b, off + j, none⟩) hbl).trans (hcell j hj)
  have hn1 : Hid (∀ j : Nat, 0 ≤ xs[j]?.getD 0) := hn
  clear hcell hn
  go_loop [21] (fun i => ∃ k : Nat, k ≤ xs.length ∧ i = .int .i64 k) (fun i => xs.length - (intOf i).toNat)
  case atStart => exact ⟨0, Nat.zero_le _, rfl⟩
  case round =>
    obtain ⟨k, hk, rfl⟩ := hrel
    by_cases hlt : k < xs.length
    · have hc := hcell1.out k hlt
      have hpos := hn1.out k
      generalize xs[k]?.getD 0 = x at hc hpos
      by_cases h20 : k = 20
      · have h20' : ((k : Int) == 20) = true := by rw [h20]; rfl
        clear h20
        go_wp2
        go_ret
        exact ⟨rfl, hb1⟩
      · have h20' : ((k : Int) == 20) = false := by simpa using (by omega : ¬ (k : Int) = 20)
        clear h20
        go_wp2_with (first | (go_at_call 9; refine (slot_no _ _ _ m1).mono ?_; rintro e w' ⟨rfl, rfl⟩) | (go_at_call 10; refine (probe_low _ _ _ _ m1).mono ?_; rintro e w' ⟨rfl, rfl⟩))
        go_round
        case rel => exact ⟨k + 1, by omega, by go_num⟩
        case measure => simp [intOf]; omega
    · obtain rfl : k = xs.length := by omega
      go_wp2
      go_ret
      exact ⟨rfl, hb1⟩

set_option maxHeartbeats 1000000 in
/-- Too many slots to go round. -/
theorem loop_high (b off cap : Nat) (xs : List Int) (many turn : Int) (w : World) (h0 : 0 < xs.length) (hm : xs.length ≤ maxLen)
    (hcell : ∀ j, j < xs.length → w.cell? ⟨b, off + j, none⟩ = some (.int .u64 (xs[j]?.getD 0))) (hn : ∀ j : Nat, 0 ≤ xs[j]?.getD 0)
    (m1 : 1099511627776 < many) (m2 : many ≤ 9223372036854775807) (t1 : 0 ≤ turn) :
    Calls Try.prog 3 #[.slice (some ⟨b, off, none⟩) xs.length cap, .int .i64 many, .int .i64 turn] w fun e w' => e = .returned (.bool true) ∧ Below w.heap.size w w' := by
  unfold maxLen at hm
  have hbl : b < w.heap.size := block_lt_of_cell (hcell 0 h0)
  go_enter Try.func3, Try.ntmps3
  go_wp2_with (go_at_call 8; refine (wakes_any _).mono ?_; rintro e w1 ⟨rfl, hb1⟩)
  have hcell1 : Hid (∀ j, j < xs.length → w1.cell? ⟨b, off + j, none⟩ = some (.int .u64 (xs[j]?.getD 0))) := fun j hj => (hb1.cell (p := ⟨b, off + j, none⟩) hbl).trans (hcell j hj)
  have hn1 : Hid (∀ j : Nat, 0 ≤ xs[j]?.getD 0) := hn
  clear hcell hn
  go_loop [21] (fun i => ∃ k : Nat, k ≤ xs.length ∧ i = .int .i64 k) (fun i => xs.length - (intOf i).toNat)
  case atStart => exact ⟨0, Nat.zero_le _, rfl⟩
  case round =>
    obtain ⟨k, hk, rfl⟩ := hrel
    by_cases hlt : k < xs.length
    · have hc := hcell1.out k hlt
      have hpos := hn1.out k
      generalize xs[k]?.getD 0 = x at hc hpos
      by_cases h20 : k = 20
      · have h20' : ((k : Int) == 20) = true := by rw [h20]; rfl
        clear h20
        go_wp2
        go_ret
        exact ⟨rfl, hb1⟩
      · have h20' : ((k : Int) == 20) = false := by simpa using (by omega : ¬ (k : Int) = 20)
        clear h20
        have b1 := mod_lo (h := x) (by omega : 1 ≤ many)
        have b2 := mod_hi (h := x) (by omega : 1 ≤ many)
        go_wp2_with (first | (go_at_call 9; refine (slot_yes _ _ _ (by omega) m2 hpos).mono ?_; rintro e w' ⟨rfl, rfl⟩) | (go_at_call 10; refine (probe_high _ _ _ _ m1 m2 hpos).mono ?_; rintro e w' ⟨rfl, rfl⟩))
        go_round
        case rel => exact ⟨k + 1, by omega, by go_num⟩
        case measure => simp [intOf]; omega
    · obtain rfl : k = xs.length := by omega
      go_wp2
      go_ret
      exact ⟨rfl, hb1⟩

set_option maxHeartbeats 1000000 in
/-- Too many slots, and turns below 0. -/
theorem loop_highneg (b off cap : Nat) (xs : List Int) (many turn : Int) (w : World) (h0 : 0 < xs.length) (hm : xs.length ≤ maxLen)
    (hcell : ∀ j, j < xs.length → w.cell? ⟨b, off + j, none⟩ = some (.int .u64 (xs[j]?.getD 0))) (hn : ∀ j : Nat, 0 ≤ xs[j]?.getD 0)
    (m1 : 1099511627776 < many) (m2 : many ≤ 9223372036854775807) (t1 : turn < 0) :
    Calls Try.prog 3 #[.slice (some ⟨b, off, none⟩) xs.length cap, .int .i64 many, .int .i64 turn] w fun e w' => e = .returned (.bool true) ∧ Below w.heap.size w w' := by
  unfold maxLen at hm
  have hbl : b < w.heap.size := block_lt_of_cell (hcell 0 h0)
  go_enter Try.func3, Try.ntmps3
  go_wp2_with (go_at_call 8; refine (wakes_any _).mono ?_; rintro e w1 ⟨rfl, hb1⟩)
  have hcell1 : Hid (∀ j, j < xs.length → w1.cell? ⟨b, off + j, none⟩ = some (.int .u64 (xs[j]?.getD 0))) := fun j hj => (hb1.cell (p := ⟨b, off + j, none⟩) hbl).trans (hcell j hj)
  have hn1 : Hid (∀ j : Nat, 0 ≤ xs[j]?.getD 0) := hn
  clear hcell hn
  go_loop [21] (fun i => ∃ k : Nat, k ≤ xs.length ∧ i = .int .i64 k) (fun i => xs.length - (intOf i).toNat)
  case atStart => exact ⟨0, Nat.zero_le _, rfl⟩
  case round =>
    obtain ⟨k, hk, rfl⟩ := hrel
    by_cases hlt : k < xs.length
    · have hc := hcell1.out k hlt
      have hpos := hn1.out k
      generalize xs[k]?.getD 0 = x at hc hpos
      by_cases h20 : k = 20
      · have h20' : ((k : Int) == 20) = true := by rw [h20]; rfl
        clear h20
        go_wp2
        go_ret
        exact ⟨rfl, hb1⟩
      · have h20' : ((k : Int) == 20) = false := by simpa using (by omega : ¬ (k : Int) = 20)
        clear h20
        have b1 := mod_lo (h := x) (by omega : 1 ≤ many)
        have b2 := mod_hi (h := x) (by omega : 1 ≤ many)
        go_wp2_with (first | (go_at_call 9; refine (slot_yes _ _ _ (by omega) m2 hpos).mono ?_; rintro e w' ⟨rfl, rfl⟩) | (go_at_call 10; refine (probe_high _ _ _ _ m1 m2 hpos).mono ?_; rintro e w' ⟨rfl, rfl⟩))
        go_round
        case rel => exact ⟨k + 1, by omega, by go_num⟩
        case measure => simp [intOf]; omega
    · obtain rfl : k = xs.length := by omega
      go_wp2
      go_ret
      exact ⟨rfl, hb1⟩

set_option maxHeartbeats 1000000 in
/-- Turns below 0. -/
theorem loop_neg (b off cap : Nat) (xs : List Int) (many turn : Int) (w : World) (h0 : 0 < xs.length) (hm : xs.length ≤ maxLen)
    (hcell : ∀ j, j < xs.length → w.cell? ⟨b, off + j, none⟩ = some (.int .u64 (xs[j]?.getD 0))) (hn : ∀ j : Nat, 0 ≤ xs[j]?.getD 0)
    (m1 : 1 ≤ many) (m2 : many ≤ 1099511627776) (t1 : turn < 0) :
    Calls Try.prog 3 #[.slice (some ⟨b, off, none⟩) xs.length cap, .int .i64 many, .int .i64 turn] w fun e w' => e = .returned (.bool true) ∧ Below w.heap.size w w' := by
  unfold maxLen at hm
  have hbl : b < w.heap.size := block_lt_of_cell (hcell 0 h0)
  go_enter Try.func3, Try.ntmps3
  go_wp2_with (go_at_call 8; refine (wakes_any _).mono ?_; rintro e w1 ⟨rfl, hb1⟩)
  have hcell1 : Hid (∀ j, j < xs.length → w1.cell? ⟨b, off + j, none⟩ = some (.int .u64 (xs[j]?.getD 0))) := fun j hj => (hb1.cell (p := ⟨b, off + j, none⟩) hbl).trans (hcell j hj)
  have hn1 : Hid (∀ j : Nat, 0 ≤ xs[j]?.getD 0) := hn
  clear hcell hn
  go_loop [21] (fun i => ∃ k : Nat, k ≤ xs.length ∧ i = .int .i64 k) (fun i => xs.length - (intOf i).toNat)
  case atStart => exact ⟨0, Nat.zero_le _, rfl⟩
  case round =>
    obtain ⟨k, hk, rfl⟩ := hrel
    by_cases hlt : k < xs.length
    · have hc := hcell1.out k hlt
      have hpos := hn1.out k
      generalize xs[k]?.getD 0 = x at hc hpos
      by_cases h20 : k = 20
      · have h20' : ((k : Int) == 20) = true := by rw [h20]; rfl
        clear h20
        go_wp2
        go_ret
        exact ⟨rfl, hb1⟩
      · have h20' : ((k : Int) == 20) = false := by simpa using (by omega : ¬ (k : Int) = 20)
        clear h20
        have b1 := mod_lo (h := x) m1
        have b2 := mod_hi (h := x) m1
        go_wp2_with (first | (go_at_call 9; refine (slot_yes _ _ _ m1 (by omega) hpos).mono ?_; rintro e w' ⟨rfl, rfl⟩) | (go_at_call 10; refine (probe_neg _ _ _ _ m1 m2 hpos t1).mono ?_; rintro e w' ⟨rfl, rfl⟩))
        go_round
        case rel => exact ⟨k + 1, by omega, by go_num⟩
        case measure => simp [intOf]; omega
    · obtain rfl : k = xs.length := by omega
      go_wp2
      go_ret
      exact ⟨rfl, hb1⟩

set_option maxHeartbeats 1000000 in
/-- No hash. -/
theorem loop_none (a : Option Addr) (cap : Nat) (many turn : Int) (w : World) :
    Calls Try.prog 3 #[.slice a 0 cap, .int .i64 many, .int .i64 turn] w fun e w' => e = .returned (.bool true) ∧ Below w.heap.size w w' := by
  go_enter Try.func3, Try.ntmps3
  go_wp2_with (go_at_call 8; refine (wakes_any _).mono ?_; rintro e w1 ⟨rfl, hb1⟩)
  go_loop [21] (fun i => i = .int .i64 0) (fun _ => 0)
  case atStart => rfl
  case round =>
    obtain rfl := hrel
    go_wp2
    go_ret
    exact ⟨rfl, hb1⟩

theorem walk (a0 : Option Addr) (len0 cap0 : Nat) (z0 : List Int) (a1 : Int) (a2 : Int) (w : World) (w0 : IsRow .u64 w a0 len0 cap0 z0) (w1 : (Lit.int .i64 a1).wf = true) (w2 : (Lit.int .i64 a2).wf = true) :
    Calls Try.prog 3 #[.slice a0 len0 cap0, .int .i64 a1, .int .i64 a2] w fun e w' => e = .returned (.bool true) ∧ Below w.heap.size w w' := by
  have hx : a1 ≤ 9223372036854775807 := by simp [Lit.wf, IntKind.min, IntKind.max, IntKind.bits, IntKind.signed] at w1; omega
  obtain ⟨xs, hrow, hin⟩ := row_of w0
  have hn : ∀ j : Nat, 0 ≤ xs[j]?.getD 0 := fun j => (hin j).1
  rcases hrow with ⟨_, a, cap, hv⟩ | ⟨h0, b, off, cap, hv, _, hm, hcell⟩
  · rw [hv]; exact loop_none a cap a1 a2 w
  · rw [hv]
    by_cases m1 : a1 < 1
    · exact loop_low b off cap xs a1 a2 w h0 hm hcell hn m1
    · by_cases m2 : a1 ≤ 1099511627776
      · by_cases t1 : a2 < 0
        · exact loop_neg b off cap xs a1 a2 w h0 hm hcell hn (by omega) m2 t1
        · exact loop_yes b off cap xs a1 a2 w h0 hm hcell hn (by omega) m2 (by omega)
      · by_cases t1 : a2 < 0
        · exact loop_highneg b off cap xs a1 a2 w h0 hm hcell hn (by omega) hx t1
        · exact loop_high b off cap xs a1 a2 w h0 hm hcell hn (by omega) hx (by omega)

/-! ### THE ROW's STEP: WRITTEN OUT: LEAVE IT -/
set_option maxRecDepth 100000 in
theorem lifted (os : Os) (started : os.Started) (H : Type) (enc : TypeId × Value → H) :
    ReturnsInHanded {} Try.checked os 3 .any (Rows.hashSlotsSpec.pre6 enc Try.prog Try.f3 Rows.hashSlotsRow.domain false) (Rows.hashSlotsSpec.post enc Try.prog Try.f3 false true false false) := by
  refine returnsInHanded_of_change (C := Try.checked) own started (by kernel_rfl) Try.func3
    (ChangeSpec.witness6 (enc := enc) (C := Try.checked) false ⟨#[], #[.slice none 0 0, .int .i64 0, .int .i64 0], []⟩ 8 (by kernel_rfl) (by kernel_rfl) (by kernel_rfl) (by kernel_rfl)) ?_
  intro W base args ds gs before hval0 hW hcnd _
  have hval : ∀ (j : Nat) t v, Try.f3.params[j]? = some t → args[j]? = some v → Value.okWide Try.prog W .any base t v := hval0
  have hW' := hW
  obtain ⟨p, q, hA0, hV, rfl, hfz, hnd⟩ := hW
  have hA : DataW.TrodAll enc Try.prog W 0 (fun _ => true) true Try.f3.params.toList args.toList ds p := hA0
  rw [Try.params3] at hA hval
  obtain ⟨v0, vs0, d0, ds0, p0, q0, hargs, rfl, rfl, h0, r0⟩ := trodAll_cons hA
  obtain ⟨v1, vs1, d1, ds1, p1, q1, rfl, rfl, rfl, h1, r1⟩ := trodAll_cons r0
  obtain ⟨v2, vs2, d2, ds2, p2, q2, rfl, rfl, rfl, h2, r2⟩ := trodAll_cons r1
  obtain ⟨rfl, rfl, rfl⟩ := trodAll_nil r2
  obtain rfl : args = #[v0, v1, v2] := by cases args; simp_all
  obtain ⟨rfl, rfl⟩ := trodVars_none hV
  obtain ⟨a0, len0, cap0, rfl⟩ := okWide_slice Try.underlying22 (hval 0 22 v0 rfl rfl)
  have k0 := h0
  have lt0 : ∀ x ∈ p0, x.block < W.heap.size := by obtain ⟨m, hm⟩ := k0; exact DataW.trod_lt m _ _ _ hm
  obtain ⟨z0, w0⟩ : ∃ zs, IsRow .u64 W a0 len0 cap0 zs := by
    obtain ⟨fuel, hf⟩ := h0
    rcases open_ints Try.underlying22 Try.underlying24 (by kernel_rfl) hf with ⟨hcs, _⟩ | ⟨x, l, c, zs, hcs, _, hl, hm, hz, _, hcell, hwz⟩
    · simp [Value.cells] at hcs
      obtain ⟨rfl, rfl, rfl⟩ := hcs
      exact ⟨[], .inl ⟨rfl, rfl, rfl, rfl⟩⟩
    · simp [Value.cells] at hcs
      obtain ⟨rfl, rfl, rfl⟩ := hcs
      exact ⟨zs, .inr ⟨_, rfl, hl, hm, by simpa using hz, hcell, hwz⟩⟩
  obtain ⟨a1, rfl, rfl, rfl, w1⟩ := open_int Try.underlying3 (hval 1 3 v1 rfl rfl) h1
  obtain ⟨a2, rfl, rfl, rfl, w2⟩ := open_int Try.underlying3 (hval 2 3 v2 rfl rfl) h2
  clear hA0 hval0
  refine (walk a0 len0 cap0 z0 a1 a2 W w0 w1 w2).mono fun e W' ⟨he, bel⟩ => ?_
  subst he
  exact ⟨_, rfl, _, _, _, [], _, [], hW', trodAll_mk1 (shut_bool Try.underlying4 _), (trodAll_cons_mk (Below.trod laidOut (by kernel_rfl) (of_decide_eq_true (by kernel_rfl)) k0 bel lt0) (trodAll_cons_mk (shut_int Try.underlying3 w1) (trodAll_cons_mk (shut_int Try.underlying3 w2) trodAll_mk0))), rfl, bel.frame _, fun h => by cases h⟩

theorem over : Rows.hashSlotsRow.holds Try.pinned (OpenSpec.ofChange Rows.hashSlotsSpec) :=
  OpenClaim.holds_of_wide 3 Try.f3 rfl rfl rfl rfl rfl rfl rfl ⟨rfl, rfl, rfl, rfl, rfl⟩ rfl rfl rfl rfl rfl (by kernel_rfl) Try.func3 (by kernel_rfl)
    (of_decide_eq_true (by kernel_rfl)) (by unfold Func.isWrapper; first | (rw [if_pos (by decide +kernel)]; kernel_rfl) | (rw [if_neg (by decide +kernel)]; exact ⟨rfl, rfl⟩))
    (fun os started H enc _ => lifted os started H enc)

/-- ████ THE STATEMENT ████ -/
theorem proved : Rows.HashSlotsSaid := over
#print axioms proved
end Go.Proofs.Ytjefgnkekodljaa.hashSlots
