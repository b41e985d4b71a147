/-
  Of: the hash of a row; and wakes.
-/
import Derived.Test.YtjefgnkekodljaaSlot
import Derived.OpenShut
namespace Go.Proofs.Ytjefgnkekodljaa
open Go.RowKit

/-- A slice value whose elements are the numbers xs, each of 64 bits (of kind u64). -/
def Row (w : World) (v : Value) (xs : List Int) : Prop :=
  (xs = [] ∧ ∃ a cap, v = .slice a 0 cap) ∨
  (0 < xs.length ∧ ∃ b off cap, v = .slice (some ⟨b, off, none⟩) xs.length cap ∧ xs.length ≤ cap ∧ xs.length ≤ maxLen ∧ ∀ j, j < xs.length → w.cell? ⟨b, off + j, none⟩ = some (.int .u64 (xs[j]?.getD 0)))

theorem Row.below {w w' : World} {v : Value} {xs : List Int} (hb : Below w.heap.size w w') : Row w v xs → Row w' v xs
  | .inl h => .inl h
  | .inr ⟨h0, b, off, cap, hv, hc, hm, hcell⟩ => .inr ⟨h0, b, off, cap, hv, hc, hm, fun j hj => (hb.cell (p := ⟨b, off + j, none⟩) (block_lt_of_cell (hcell j hj))).trans (hcell j hj)⟩

/-- A slice of numbers that came in: nil, or a row of cells. -/
def IsRow (k : IntKind) (w : World) (a : Option Addr) (len cap : Nat) (zs : List Int) : Prop :=
  (a = none ∧ len = 0 ∧ cap = 0 ∧ zs = []) ∨
  ∃ x, a = some x ∧ len ≤ cap ∧ cap ≤ maxLen ∧ zs.length = cap ∧ (∀ i, i < zs.length → w.cell? (x.add i) = some (.int k (zs.getD i 0))) ∧ ∀ n ∈ zs, (Lit.int k n).wf = true

/-- .. read as Row says it. -/
theorem row_of {w : World} {a : Option Addr} {len cap : Nat} {zs : List Int} (h : IsRow .u64 w a len cap zs) : ∃ xs, Row w (.slice a len cap) xs ∧ ∀ j : Nat, In64 (xs[j]?.getD 0) := by
  rcases h with ⟨rfl, rfl, rfl, _⟩ | ⟨x, rfl, hl, hm, hz, hc, hw⟩
  · exact ⟨[], .inl ⟨rfl, _, _, rfl⟩, fun j => by simp [In64]⟩
  · refine ⟨zs.take len, ?_, fun j => ?_⟩
    · by_cases h0 : len = 0
      · subst h0
        exact .inl ⟨by simp, _, _, rfl⟩
      · obtain ⟨b, off, rfl, hcell⟩ := ints_at hc (by omega)
        have hlen : (zs.take len).length = len := by simp; omega
        refine .inr ⟨by omega, b, off, cap, by rw [hlen], by omega, by omega, fun j hj => ?_⟩
        rw [hcell j (by omega), List.getD_eq_getElem?_getD, List.getElem?_take_of_lt (by omega)]
    · by_cases hj : j < (zs.take len).length
      · rw [List.getElem?_eq_getElem hj]
        exact in64_wf (hw _ (List.mem_of_mem_take (List.getElem_mem hj)))
      · rw [List.getElem?_eq_none (by omega)]
        exact ⟨by decide, by decide⟩

set_option maxRecDepth 100000 in
set_option maxHeartbeats 1000000 in
theorem of_none (a : Option Addr) (cap : Nat) (w : World) :
    Calls Try.prog 14 #[.slice a 0 cap] w fun e w' => e = .returned (.int .u64 (ofF [])) ∧ w = w' := by
  go_enter Try.func14, Try.ntmps14
  go_wp2
  go_loop [3, 8] (fun x i => x = .int .u64 14695981039346656037 ∧ i = .int .i64 0) (fun _ _ => 0)
  case atStart => exact ⟨rfl, rfl⟩
  case round =>
    obtain ⟨rfl, rfl⟩ := hrel
    go_wp2
    go_ret
    exact ⟨rfl, rfl⟩

theorem foldl_snoc (f : Int → Int → Int) (xs : List Int) (k : Nat) (hk : k < xs.length) (h : Int) : (xs.take (k + 1)).foldl f h = f ((xs.take k).foldl f h) xs[k] := by
  rw [List.take_succ_eq_append_getElem hk, List.foldl_append]
  rfl

set_option maxRecDepth 100000 in
set_option maxHeartbeats 1000000 in
theorem of_some (b off cap : Nat) (xs : List Int) (w : World) (h0 : 0 < xs.length) (hm : xs.length ≤ maxLen)
    (hcell : ∀ j, j < xs.length → w.cell? ⟨b, off + j, none⟩ = some (.int .u64 (xs[j]?.getD 0))) :
    Calls Try.prog 14 #[.slice (some ⟨b, off, none⟩) xs.length cap] w fun e w' => e = .returned (.int .u64 (ofF xs)) ∧ Below w.heap.size w w' := by
  unfold maxLen at hm
  have hbl : b < w.heap.size := block_lt_of_cell (hcell 0 h0)
  go_enter Try.func14, Try.ntmps14
  go_wp2
  go_loopw [3, 8] (fun x i wr => ∃ k : Nat, k ≤ xs.length ∧ i = .int .i64 k ∧ x = .int .u64 ((xs.take k).foldl addF 14695981039346656037) ∧ Below w.heap.size w wr) (fun _ i _ => xs.length - (intOf i).toNat)
  case atStart => exact ⟨0, Nat.zero_le _, rfl, rfl, Below.refl _ _⟩
  case round =>
    obtain ⟨k, hk, rfl, rfl, hb⟩ := hrel
    by_cases hlt : k < xs.length
    · have hc : wr.cell? ⟨b, off + k, none⟩ = some (.int .u64 (xs[k]?.getD 0)) := (hb.cell (p := ⟨b, off + k, none⟩) hbl).trans (hcell k hlt)
      go_wp2_with (go_at_call 12; refine (add_any _ _ _).mono ?_; rintro e w' ⟨rfl, hb'⟩)
      go_roundw
      case rel => exact ⟨k + 1, by omega, by go_num, by rw [foldl_snoc _ _ _ hlt], hb.trans (hb'.mono hb.size)⟩
      case measure => simp [intOf]; omega
    · obtain rfl : k = xs.length := by omega
      go_wp2
      go_ret
      exact ⟨by rw [List.take_length]; rfl, hb⟩

theorem of_any {v : Value} {xs : List Int} {w : World} (h : Row w v xs) :
    Calls Try.prog 14 #[v] w fun e w' => e = .returned (.int .u64 (ofF xs)) ∧ Below w.heap.size w w' := by
  rcases h with ⟨rfl, a, cap, rfl⟩ | ⟨h0, b, off, cap, rfl, _, hm, hcell⟩
  · exact (of_none a cap w).mono fun e w' ⟨he, hw⟩ => ⟨he, hw ▸ Below.refl _ _⟩
  · exact of_some b off cap xs w h0 hm hcell

theorem wakes_hash : backF (addF 7 3) 3 = 7 := backF_addF ⟨by decide, by decide⟩ 3

set_option maxHeartbeats 1000000 in
theorem wakes_any (w : World) : Calls Try.prog 8 #[] w fun e w' => e = .returned (.bool true) ∧ Below w.heap.size w w' := by
  have e1 : probeF 10 4 3 = 1 := by decide
  have e2 : ofF [] = 14695981039346656037 := rfl
  have e3 := wakes_hash
  go_enter Try.func8, Try.ntmps8
  go_wp2_with (first | (go_at_call 10; refine (probe_yes 10 4 3 _ (by omega) (by omega) (by omega) (by omega)).mono ?_; rintro e w' ⟨rfl, rfl⟩) | (go_at_call 9; refine (slot_no 1 0 _ (by omega)).mono ?_; rintro e w' ⟨rfl, rfl⟩) | (go_at_call 14; refine (of_none none 0 _).mono ?_; rintro e w' ⟨rfl, rfl⟩) | (go_at_call 12; refine (add_any _ _ _).mono ?_; rintro e w1 ⟨rfl, hb1⟩) | (go_at_call 13; refine (backI_any _ _ _).mono ?_; rintro e w2 ⟨rfl, hb2⟩))
  go_ret
  exact ⟨rfl, hb1.trans (hb2.mono hb1.size)⟩
end Go.Proofs.Ytjefgnkekodljaa
