/-
  The map of slots that HashTurns keeps: what the slots of so many turns are, plainly; and what the map holds of them.
-/
import Derived.Test.YtjefgnkekodljaaRow
import Derived.Maps.OwnSet
namespace Go.Proofs.Ytjefgnkekodljaa
open Go.RowKit

theorem probe_val {h M i : Int} (hM : 1 ≤ M) (h0 : 0 ≤ i) (h1 : i < M) : probeF h M i = if h % M + i < M then h % M + i else h % M + i - M := by
  have b1 := mod_lo (h := h) hM
  have b2 := mod_hi (h := h) hM
  unfold probeF
  rw [Int.emod_eq_of_lt h0 h1]
  split
  · exact Int.emod_eq_of_lt (by omega) (by assumption)
  · rw [← Int.sub_emod_right]
    exact Int.emod_eq_of_lt (by omega) (by omega)
theorem probe_lo {h M i : Int} (hM : 1 ≤ M) : 0 ≤ probeF h M i := mod_lo hM
theorem probe_hi {h M i : Int} (hM : 1 ≤ M) : probeF h M i < M := mod_hi hM
theorem probe_zero {h M : Int} (hM : 1 ≤ M) : probeF h M 0 = h % M := by
  have b2 := mod_hi (h := h) hM
  rw [probe_val hM (by omega) (by omega)]
  split <;> omega
theorem probe_round {h M : Int} (hM : 1 ≤ M) : probeF h M M = h % M := by
  unfold probeF
  rw [Int.emod_self, Int.add_zero]
  exact Int.emod_eq_of_lt (mod_lo hM) (mod_hi hM)
theorem probe_next {h M i : Int} (hM : 1 ≤ M) (h0 : 0 ≤ i) (h1 : i + 1 < M) : probeF h M (i + 1) = (probeF h M i + 1) % M := by
  have b1 := mod_lo (h := h) hM
  have b2 := mod_hi (h := h) hM
  have b3 := probe_lo (h := h) (i := i) hM
  have b4 := probe_hi (h := h) (i := i) hM
  have e1 := probe_val (h := h) hM (i := i + 1) (by omega) h1
  have e2 := probe_val (h := h) hM h0 (by omega)
  by_cases hl : probeF h M i + 1 < M
  · rw [Int.emod_eq_of_lt (by omega) hl]
    rw [e1, e2]
    rw [e2] at hl
    split <;> split <;> split at hl <;> omega
  · have e3 : probeF h M i + 1 = M := by omega
    rw [e3, Int.emod_self, e1]
    rw [e2] at e3
    split <;> split at e3 <;> omega
theorem probe_inj {h M i j : Int} (hM : 1 ≤ M) (i0 : 0 ≤ i) (i1 : i < M) (j0 : 0 ≤ j) (j1 : j < M) (e : probeF h M i = probeF h M j) : i = j := by
  have b1 := mod_lo (h := h) hM
  have b2 := mod_hi (h := h) hM
  rw [probe_val hM i0 i1, probe_val hM j0 j1] at e
  split at e <;> split at e <;> omega

/-- The slots of the first k turns, as keys. -/
def keys (h M : Int) (k : Nat) : List Lit := (List.range k).map fun (i : Nat) => .int .i64 (probeF h M i)
theorem keys_succ (h M : Int) (k : Nat) : keys h M (k + 1) = keys h M k ++ [.int .i64 (probeF h M k)] := by simp [keys, List.range_succ]
theorem keys_key (h M : Int) (k : Nat) : ∀ x ∈ keys h M k, WideAt.IsKeyLit x := by
  intro x hx
  obtain ⟨i, _, rfl⟩ := List.mem_map.1 hx
  simp [WideAt.IsKeyLit]
/-- The map that holds them. -/
def met (h M : Int) (k : Nat) : DataW Unit := Maps.setOf (.lit (.bool true)) (keys h M k)
theorem met_zero (h M : Int) : met h M 0 = .map [] := rfl
theorem met_succ (h M : Int) (k : Nat) : met h M (k + 1) = (met h M k).put (.int .i64 (probeF h M k)) (.lit (.bool true)) := by
  unfold met
  rw [keys_succ, Maps.setOf_snoc]
/-- A slot of a turn that is still to come isn't there yet. -/
theorem met_not {h M : Int} {k : Nat} (hM : 1 ≤ M) (hk : (k : Int) < M) : Maps.has (met h M k) (.int .i64 (probeF h M k)) = false := by
  unfold met
  rw [Maps.has_setOf _ _ _ (keys_key h M k), List.any_eq_false]
  intro x hx
  obtain ⟨i, hi, rfl⟩ := List.mem_map.1 hx
  have hi := List.mem_range.1 hi
  intro hs
  have := WideAt.sameKey_eq hs
  injection this with _ e
  have := probe_inj hM (by omega) (by omega) (by omega) hk e
  omega
theorem met_size {h M : Int} (hM : 1 ≤ M) : ∀ k : Nat, (k : Int) ≤ M → Maps.size (met h M k) = k := by
  intro k
  induction k with
  | zero => intro _; rfl
  | succ k ih =>
    intro hk
    have ht : Maps.Tidy (met h M k) := Maps.tidy_setOf _ _ (keys_key h M k)
    rw [met_succ, Maps.size_put ht, met_not hM (by omega), ih (by omega)]
    rfl

theorem plainElem_bool_inv {H : Type} {P : Program} {e : TypeId} (he : P.underlying e = some .bool) {v : Value} {z : DataW H × List MemPlace} (h : plainElem P e v = some z) : ∃ x, v = .bool x ∧ z = (.lit (.bool x), []) := by
  unfold plainElem at h
  rw [he] at h
  cases v <;> simp at h
  subst h
  exact ⟨_, rfl, rfl⟩

theorem zero4 (w : World) : (zeroValue 4).run Try.prog w = .ok (.bool false) w := by kernel_rfl

theorem look_not {w : World} {b n k : Nat} {h M : Int} (hown : w.ownsMap Try.prog 3 (plainElem Try.prog 4) b n (met h M k)) (hM : 1 ≤ M) (hM' : M ≤ 300) (hk : (k : Int) < M) :
    (Instr.lookup 38 (.map (some b)) (.int .i64 (probeF h M k)) false).run Try.prog w = .ok (.bool false) w := by
  have b1 := probe_lo (h := h) (i := k) hM
  have b2 := probe_hi (h := h) (i := k) hM
  obtain ⟨v, ps, hrun, hv⟩ := hown.lookup (Maps.int_keyed Try.underlying3) Try.underlying38 (zero4 w) (plainElem_bool Try.underlying4 false) (Maps.keyOf_int_mk Try.underlying3 (WalkArith.wf_i64 (n := probeF h M k) (by omega)))
  obtain ⟨x, rfl, hx⟩ := plainElem_bool_inv Try.underlying4 hv
  rw [Maps.atKey_of_not_has (met_not hM hk)] at hx
  simp at hx
  rw [hrun, hx.1]
end Go.Proofs.Ytjefgnkekodljaa
