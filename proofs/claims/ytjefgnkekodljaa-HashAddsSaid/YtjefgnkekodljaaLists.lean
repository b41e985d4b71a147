/-
  The document's Of; and the library's Clone and Equal at slices of ids.
-/
import Derived.Test.YtjefgnkekodljaaRef
import Derived.Test.YtjefgnkekodljaaAppend
import Derived.WalkSpells
namespace Go.Proofs.Ytjefgnkekodljaa
open Go.RowKit

theorem snocD (f : Int → Int → Int) (xs : List Int) (k : Nat) (hk : k < xs.length) (h : Int) : (xs.take (k + 1)).foldl f h = f ((xs.take k).foldl f h) (xs[k]?.getD 0) := by
  rw [foldl_snoc f xs k hk h, List.getElem?_eq_getElem hk]
  rfl

set_option maxRecDepth 100000 in
set_option maxHeartbeats 1000000 in
theorem refOf_any (A : Option Addr) (n cap : Nat) (xs : List Int) (w : World) (rx : Row w (.slice A n cap) xs) (hin : ∀ j : Nat, In64 (xs[j]?.getD 0)) (hn : n ≤ 64) :
    Calls Try.prog 16 #[.slice A n cap] w fun e w' => e = .returned (.int .u64 (ofF xs)) ∧ Below w.heap.size w w' := by
  have lenx : Hid (n = xs.length) := rx.len
  have HI : Hid (∀ j : Nat, In64 (xs[j]?.getD 0)) := hin
  clear hin
  go_enter Try.func16, Try.ntmps16
  go_wp2
  go_loopw [3, 8] (fun x i wr => ∃ k : Nat, k ≤ n ∧ i = .int .i64 k ∧ x = .int .u64 ((xs.take k).foldl addF 14695981039346656037) ∧ Below w.heap.size w wr) (fun _ i _ => n - (intOf i).toNat)
  case atStart => exact ⟨0, Nat.zero_le _, rfl, rfl, Below.refl _ _⟩
  case round =>
    obtain ⟨k, hk, rfl, rfl, hb⟩ := hrel
    by_cases hlt : k < n
    · have hlt' : k < xs.length := by have := lenx.out; omega
      have hsn : Hid ((xs.take (k + 1)).foldl addF 14695981039346656037 = addF ((xs.take k).foldl addF 14695981039346656037) (xs[k]?.getD 0)) := snocD addF xs k hlt' _
      have hz : Hid (In64 (xs[k]?.getD 0)) := HI.out k
      have hx : Hid (In64 ((xs.take k).foldl addF 14695981039346656037)) := foldA_in _ _ ⟨by decide, by decide⟩
      obtain ⟨b, off, rfl, hcell⟩ := (rx.below hb).at_ hlt'
      have hc := hcell k hlt'
      clear hcell hlt'
      generalize xs[k]?.getD 0 = z at hc hsn hz
      go_wp2_with (go_at_call 18; refine (refAdd_any _ _ _ hx.out hz.out).mono ?_; rintro e w' ⟨rfl, hb'⟩)
      replace hb := hb.trans (hb'.mono hb.size)
      go_roundw
      case rel => exact ⟨k + 1, by omega, by go_num, by rw [hsn.out], hb⟩
      case measure => simp [intOf]; omega
    · obtain rfl : n = k := by omega
      rw [List.take_of_length_le (by have := lenx.out; omega)]
      go_wp2
      go_ret
      exact ⟨rfl, hb⟩

/-- A copy of a row. -/
def Cloned (w : World) (n : Nat) (xs : List Int) (e : Ending) (w' : World) : Prop :=
  ∃ A c, e = .returned (.slice A n c) ∧ Row w' (.slice A n c) xs ∧ Below w.heap.size w w'

theorem Row.slice {w : World} {v : Value} {xs : List Int} (h : Row w v xs) : ∃ A c, v = .slice A xs.length c := by
  rcases h with ⟨rfl, a, c, hv⟩ | ⟨_, b, off, cap', hv, _, _, _⟩
  · exact ⟨a, c, hv⟩
  · exact ⟨_, _, hv⟩

set_option maxHeartbeats 1000000 in
theorem clone_any (A : Option Addr) (n cap : Nat) (xs : List Int) (w : World) (rx : Row w (.slice A n cap) xs) (hn : n ≤ 64) :
    Calls Try.prog 15 #[.slice A n cap] w (Cloned w n xs) := by
  have heq := fun (w : World) (a : Option Addr) (n c : Nat) => Lib.run_eql_slice_nil (P := Try.prog) w 34 31 a n c 0 0 Try.underlying34
  cases A with
  | none =>
    have hx : xs = [] := by
      rcases rx with ⟨h, _⟩ | ⟨h0, _, _, _, hv, _⟩
      · exact h
      · injection hv with h1 _ _
        cases h1
    subst hx
    obtain rfl : n = 0 := rx.len
    go_enter Try.func15, Try.ntmps15
    go_wp2
    go_ret
    exact ⟨none, 0, rfl, .inl ⟨rfl, _, _, rfl⟩, Below.refl _ _⟩
  | some ad =>
    have lenx : Hid (n = xs.length) := rx.len
    have hb0 : Below w.heap.size w (w.alloc (.cells #[] 31)) := (Below.refl _ w).alloc (Nat.le_refl _) _
    go_enter Try.func15, Try.ntmps15
    go_wp2_with (at_builtin; refine wpList_append_row _ rfl _ _ rfl (some ⟨w.heap.size, 0, none⟩) (some ad) 0 n cap [] xs rfl rfl (.inl ⟨rfl, _, _, rfl⟩) (rx.below hb0) (by omega) (by omega) ?_; intro v' w4 hrow hb4)
    go_ret
    obtain ⟨A, c, rfl⟩ := hrow.slice
    refine ⟨A, c, ?_, ?_, hb0.trans (hb4.mono hb0.size)⟩
    · rw [lenx.out]
      rfl
    · rw [lenx.out]
      exact hrow

set_option maxRecDepth 100000 in
set_option maxHeartbeats 1000000 in
theorem equal_any (A C : Option Addr) (n c1 c2 : Nat) (xs : List Int) (w : World) (rx : Row w (.slice A n c1) xs) (ry : Row w (.slice C n c2) xs) (hn : n ≤ 64) :
    Calls Try.prog 17 #[.slice A n c1, .slice C n c2] w fun e w' => e = .returned (.bool true) ∧ Below w.heap.size w w' := by
  have lenx : Hid (n = xs.length) := rx.len
  go_enter Try.func17, Try.ntmps17
  go_wp2
  go_loopw [13] (fun i wr => ∃ k : Nat, k ≤ n ∧ i = .int .i64 k ∧ Below w.heap.size w wr) (fun i _ => n - (intOf i).toNat)
  case atStart => exact ⟨0, Nat.zero_le _, rfl, Below.refl _ _⟩
  case round =>
    obtain ⟨k, hk, rfl, hb⟩ := hrel
    by_cases hlt : k < n
    · have hlt' : k < xs.length := by have := lenx.out; omega
      obtain ⟨b, off, rfl, hcell⟩ := (rx.below hb).at_ hlt'
      obtain ⟨b', off', rfl, hcell'⟩ := (ry.below hb).at_ hlt'
      have hc := hcell k hlt'
      have hc' := hcell' k hlt'
      clear hcell hcell' hlt'
      generalize xs[k]?.getD 0 = z at hc hc'
      have hz : (z != z) = false := bne_self_eq_false _
      go_wp2
      go_region
      go_wp2
      go_roundw
      case rel => exact ⟨k + 1, by omega, by go_num, hb.drew⟩
      case measure => simp [intOf]; omega
    · obtain rfl : n = k := by omega
      go_wp2
      go_ret
      exact ⟨rfl, hb⟩
end Go.Proofs.Ytjefgnkekodljaa
