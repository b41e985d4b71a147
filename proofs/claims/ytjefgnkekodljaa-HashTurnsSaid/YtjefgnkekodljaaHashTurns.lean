/-
  HashTurns: so many turns as there are slots come to each slot once; for every hash, and every number. No condition.
-/
import Derived.Test.YtjefgnkekodljaaMap
import Derived.WalkKit
import Derived.ProofKit
import Derived.OpenShut
import Derived.ShutString
import Derived.ChangeOld
import Derived.Below
namespace Go.Proofs.Ytjefgnkekodljaa.hashTurns
open Go.ChangeShapes Go.WideShapes Go.ChangeAt Go.RowKit
open Go.ChangeMaps (open_string shut_string)
set_option linter.unusedVariables false      -- a walk need not use every 'w<i>' (that an integer argument fits its kind)

theorem own : ownKnob Try.prog.godebug = none := by kernel_rfl


set_option maxRecDepth 100000 in
set_option maxHeartbeats 2000000 in
theorem turns (h a : Int) (w : World) (h0 : 0 ≤ h) :
    Calls Try.prog 6 #[.int .u64 h, .int .i64 a] w fun e w' => e = .returned (.bool true) ∧ Below w.heap.size w w' := by
  have c0 : 0 ≤ IntKind.u64.wrap a := by rw [wrap_nv]; exact (nv_in _).1
  have c1 := mod_lo (h := IntKind.u64.wrap a) (many := 300) (by omega)
  have c2 := mod_hi (h := IntKind.u64.wrap a) (many := 300) (by omega)
  have M1 : 1 ≤ 1 + IntKind.u64.wrap a % 300 := by omega
  have M2 : 1 + IntKind.u64.wrap a % 300 ≤ 300 := by omega
  have b1 := mod_lo (h := h) M1
  have b2 := mod_hi (h := h) M1
  have hmm := @run_makeMap Try.prog
  go_enter Try.func6, Try.ntmps6
  go_wp2_with (first | (go_at_call 8; refine (wakes_any _).mono ?_; rintro e w1 ⟨rfl, hb1⟩) | (go_at_call 9; refine (slot_yes _ _ _ M1 (by omega) h0).mono ?_; rintro e w' ⟨rfl, rfl⟩))
  clear hmm c0 c1 c2
  generalize 1 + IntKind.u64.wrap a % 300 = M at M1 M2 b1 b2 ⊢
  have hown0 : (w1.alloc (.map #[] 0)).ownsMap Try.prog 3 (plainElem Try.prog 4) w1.heap.size 0 (met h M 0) := World.ownsMap_made w1 Try.prog 3 (plainElem Try.prog 4)
  have hb0 : Below w.heap.size w (w1.alloc (.map #[] 0)) := hb1.alloc hb1.size _
  have hB := hb1.size
  clear hb1
  generalize w1.alloc (.map #[] 0) = w2 at hown0 hb0 ⊢
  generalize w1.heap.size = B at hown0 hB ⊢
  go_loopw [6, 31] (fun l i wr => ∃ (k : Nat) (j x : Int), Hid (j = (k : Int)) ∧ 0 ≤ j ∧ j ≤ M ∧ i = .int .i64 j ∧ l = .int .i64 x ∧ 0 ≤ x ∧ x < M ∧ Hid (x = if j = 0 then h % M else probeF h M (j - 1)) ∧ wr.ownsMap Try.prog 3 (plainElem Try.prog 4) B k (met h M k) ∧ Below w.heap.size w wr) (fun _ i _ => (M - intOf i).toNat)
  case atStart => exact ⟨0, 0, h % M, rfl, by omega, by omega, rfl, rfl, b1, b2, rfl, hown0, hb0⟩
  case round =>
    clear hown0 hb0
    obtain ⟨k, j, x, hj, j0, j1, rfl, rfl, x0, x1, hx, hown, hb⟩ := hrel
    by_cases hlt : j < M
    · have hrun := look_not hown M1 M2 (by rw [← hj.out]; exact hlt)
      rw [← hj.out] at hrun
      have p1 := probe_lo (h := h) (i := j) M1
      have p2 := probe_hi (h := h) (i := j) M1
      have hk : k < 300 := by have := hj.out; omega
      by_cases hz : j = 0
      · have hq : (probeF h M j != x) = false := by
          have e1 := hx.out
          rw [if_pos hz] at e1
          rw [e1, hz, probe_zero M1]
          exact bne_self_eq_false _
        clear hx
        subst hz
        go_wp2_with (first | (go_at_call 10; refine (probe_yes _ _ _ _ M1 (by omega) h0 (by omega)).mono ?_; rintro e w' ⟨rfl, rfl⟩) | (at_mapUpdate; refine wpList_mapUpdate_own _ rfl _ _ _ 38 rfl 3 4 (Maps.int_keyed Try.underlying3) Try.underlying38 _ B k _ rfl hown (by unfold maxLen; omega) _ _ _ rfl rfl (Maps.keyOf_int_mk Try.underlying3 (WalkArith.wf_i64 (by omega))) _ [] (plainElem_bool Try.underlying4 true) ?_; intro w3 hown1 hgrow1))
        go_roundw
        case rel =>
          refine ⟨k + 1, 1, probeF h M 0, ?_, by omega, by omega, rfl, rfl, p1, p2, ?_, ?_, hb.grown hgrow1 hb.size (fun r e => by cases e; exact hB)⟩
          · have e1 := hj.out
            show (1 : Int) = ((k + 1 : Nat) : Int)
            omega
          · show probeF h M 0 = if (1 : Int) = 0 then h % M else probeF h M (1 - 1)
            rw [if_neg (by omega)]
            rfl
          · rw [met_succ, ← hj.out]
            exact hown1
        case measure => simp [intOf]; omega
      · have hq : (probeF h M j != (x + 1) % M) = false := by
          have e1 := hx.out
          rw [if_neg hz] at e1
          rw [e1, ← probe_next M1 (by omega) (by omega), Int.sub_add_cancel]
          exact bne_self_eq_false _
        have j2 : 1 ≤ j := by omega
        clear hx hz
        go_wp2_with (first | (go_at_call 10; refine (probe_yes _ _ _ _ M1 (by omega) h0 (by omega)).mono ?_; rintro e w' ⟨rfl, rfl⟩) | (at_mapUpdate; refine wpList_mapUpdate_own _ rfl _ _ _ 38 rfl 3 4 (Maps.int_keyed Try.underlying3) Try.underlying38 _ B k _ rfl hown (by unfold maxLen; omega) _ _ _ rfl rfl (Maps.keyOf_int_mk Try.underlying3 (WalkArith.wf_i64 (by omega))) _ [] (plainElem_bool Try.underlying4 true) ?_; intro w3 hown1 hgrow1))
        go_roundw
        case rel =>
          refine ⟨k + 1, j + 1, probeF h M j, ?_, by omega, by omega, rfl, rfl, p1, p2, ?_, ?_, hb.grown hgrow1 hb.size (fun r e => by cases e; exact hB)⟩
          · have e1 := hj.out
            show j + 1 = ((k + 1 : Nat) : Int)
            omega
          · show probeF h M j = if j + 1 = 0 then h % M else probeF h M (j + 1 - 1)
            rw [if_neg (by omega), Int.add_sub_cancel]
          · rw [met_succ, ← hj.out]
            exact hown1
        case measure => simp [intOf]; omega
    · obtain rfl : M = j := by omega
      have hlen : ∀ ty, (Builtin.len_ #[38] ty #[.map (some B)]).run Try.prog wr = .ok (.int .i64 M) wr := by
        intro ty
        have e1 := hown.len Try.underlying38 ty
        rw [met_size M1 k (by have := hj.out; omega), ← hj.out] at e1
        exact e1
      have hq : (probeF h M M == h % M) = true := by rw [probe_round M1]; exact beq_self_eq_true _
      clear hx hown
      go_wp2_with (first | (go_at_call 10; refine (probe_yes _ _ _ _ M1 (by omega) h0 (by omega)).mono ?_; rintro e w' ⟨rfl, rfl⟩) | (go_at_call 9; refine (slot_yes _ _ _ M1 (by omega) h0).mono ?_; rintro e w' ⟨rfl, rfl⟩))
      go_ret
      exact ⟨rfl, hb⟩

theorem walk (a0 : Int) (a1 : Int) (w0 : (Lit.int .u64 a0).wf = true) (w : World) :
    Calls Try.prog 6 #[.int .u64 a0, .int .i64 a1] w fun e w' => e = .returned (.bool true) ∧ Below w.heap.size w w' := turns a0 a1 w (in64_wf w0).1

/-! ### THE ROW's STEP: WRITTEN OUT: LEAVE IT -/
set_option maxRecDepth 100000 in
theorem lifted (os : Os) (started : os.Started) (H : Type) (enc : TypeId × Value → H) :
    ReturnsInHanded {} Try.checked os 6 .any (Rows.hashTurnsSpec.pre6 enc Try.prog Try.f6 Rows.hashTurnsRow.domain false) (Rows.hashTurnsSpec.post enc Try.prog Try.f6 false true false false) := by
  refine returnsInHanded_of_change (C := Try.checked) own started (by kernel_rfl) Try.func6
    (ChangeSpec.witness6 (enc := enc) (C := Try.checked) false ⟨#[], #[.int .u64 0, .int .i64 0], []⟩ 8 (by kernel_rfl) (by kernel_rfl) (by kernel_rfl) (by kernel_rfl)) ?_
  intro W base args ds gs before hval0 hW hcnd _
  have hval : ∀ (j : Nat) t v, Try.f6.params[j]? = some t → args[j]? = some v → Value.okWide Try.prog W .any base t v := hval0
  have hW' := hW
  obtain ⟨p, q, hA0, hV, rfl, hfz, hnd⟩ := hW
  have hA : DataW.TrodAll enc Try.prog W 0 (fun _ => true) true Try.f6.params.toList args.toList ds p := hA0
  rw [Try.params6] at hA hval
  obtain ⟨v0, vs0, d0, ds0, p0, q0, hargs, rfl, rfl, h0, r0⟩ := trodAll_cons hA
  obtain ⟨v1, vs1, d1, ds1, p1, q1, rfl, rfl, rfl, h1, r1⟩ := trodAll_cons r0
  obtain ⟨rfl, rfl, rfl⟩ := trodAll_nil r1
  obtain rfl : args = #[v0, v1] := by cases args; simp_all
  obtain ⟨rfl, rfl⟩ := trodVars_none hV
  obtain ⟨a0, rfl, rfl, rfl, w0⟩ := open_int Try.underlying24 (hval 0 24 v0 rfl rfl) h0
  obtain ⟨a1, rfl, rfl, rfl, w1⟩ := open_int Try.underlying3 (hval 1 3 v1 rfl rfl) h1
  clear hA0 hval0
  refine (walk a0 a1 w0 W).mono fun e W' ⟨he, bel⟩ => ?_
  subst he
  exact ⟨_, rfl, _, _, _, [], _, [], hW', trodAll_mk1 (shut_bool Try.underlying4 _), (trodAll_cons_mk (shut_int Try.underlying24 w0) (trodAll_cons_mk (shut_int Try.underlying3 w1) trodAll_mk0)), rfl, bel.frame _, fun h => by cases h⟩

theorem over : Rows.hashTurnsRow.holds Try.pinned (OpenSpec.ofChange Rows.hashTurnsSpec) :=
  OpenClaim.holds_of_wide 6 Try.f6 rfl rfl rfl rfl rfl rfl rfl ⟨rfl, rfl, rfl, rfl, rfl⟩ rfl rfl rfl rfl rfl (by kernel_rfl) Try.func6 (by kernel_rfl)
    (of_decide_eq_true (by kernel_rfl)) (by unfold Func.isWrapper; first | (rw [if_pos (by decide +kernel)]; kernel_rfl) | (rw [if_neg (by decide +kernel)]; exact ⟨rfl, rfl⟩))
    (fun os started H enc _ => lifted os started H enc)

/-- ████ THE STATEMENT ████ -/
theorem proved : Rows.HashTurnsSaid :=
  over
#print axioms proved
end Go.Proofs.Ytjefgnkekodljaa.hashTurns
