/-
  append onto a slice of ids that is full: what comes out reads as the two rows, one behind the other; nothing that was there is written.
-/
import Derived.Test.YtjefgnkekodljaaRow
import Derived.ArgAppend
import Derived.ProofKit
namespace Go.Proofs.Ytjefgnkekodljaa
open Go.RowKit

theorem info31 : (Try.prog.info? 31).map (fun i => (i.zero, i.size, i.bytes)) = some (some (.int .u64 0), 1, 8) := by kernel_rfl

/-- Where there is an element, the slice has an address, and the cells lie there. -/
theorem Row.at_ {w : World} {A : Option Addr} {n cap k : Nat} {xs : List Int} (h : Row w (.slice A n cap) xs) (hk : k < xs.length) :
    ∃ b off, A = some ⟨b, off, none⟩ ∧ ∀ j, j < xs.length → w.cell? ⟨b, off + j, none⟩ = some (.int .u64 (xs[j]?.getD 0)) := by
  rcases h with ⟨rfl, _⟩ | ⟨_, b, off, cap', hv, _, _, hc⟩
  · simp at hk
  · injection hv with h1 _ _
    exact ⟨b, off, h1, hc⟩
theorem Row.len {w : World} {A : Option Addr} {n cap : Nat} {xs : List Int} (h : Row w (.slice A n cap) xs) : n = xs.length := by
  rcases h with ⟨rfl, a, c, hv⟩ | ⟨_, b, off, cap', hv, _, _, _⟩
  · injection hv
  · injection hv

theorem run_append_none (w : World) (ty : TypeId) (A C : Option Addr) (n c : Nat) : (Builtin.append_ #[34, 34] ty #[.slice A n n, .slice C 0 c]).run Try.prog w = .ok (.slice A n n) w := by
  obtain ⟨i, hi, _, _, _⟩ := info_parts info31
  cases A <;> cases C <;> simp [Builtin.append_, run_underlying Try.underlying34, sizeOf, typeInfo, hi, Builtin.lenOf, Builtin.firstCells, storeCells, loadCells, loadCellsFrom]

def cellsOf (xs : List Int) : List Value := xs.map (Value.int .u64)
theorem cellsOf_at {xs : List Int} {j : Nat} {u : Value} (h : (cellsOf xs)[j]? = some u) : j < xs.length ∧ u = .int .u64 (xs[j]?.getD 0) := by
  unfold cellsOf at h
  rw [List.getElem?_map] at h
  by_cases hj : j < xs.length
  · rw [List.getElem?_eq_getElem hj] at h ⊢
    exact ⟨hj, by simpa using h.symm⟩
  · rw [List.getElem?_eq_none (by omega)] at h
    simp at h

theorem row_of_own {w : World} {base n : Nat} {v : Value} {xs : List Int} (h : w.ownsRow base 31 1 v n (cellsOf xs)) : Row w v xs := by
  have hl : xs.length = n := by have := h.1; simpa [cellsOf] using this
  rcases h.2 with ⟨rfl, rfl⟩ | ⟨g, cap, cur, rfl, _, _, hnc, hcm, _, _⟩
  · exact .inl ⟨List.eq_nil_of_length_eq_zero hl, _, _, rfl⟩
  · rcases Nat.eq_zero_or_pos n with h0 | h0
    · subst h0
      exact .inl ⟨List.eq_nil_of_length_eq_zero hl, _, _, rfl⟩
    · refine .inr ⟨by omega, g, 0, cap, by rw [hl], by omega, by omega, fun j hj => ?_⟩
      have := h.cells (g := g) rfl j (.int .u64 (xs[j]?.getD 0)) (by simp [cellsOf, hj])
      rwa [Go.WideShapes.add_plain] at this

theorem wpList_append_row {ops : Array Oper} {rest : List Oper} {o : Oper} {a : Act} {Q : Exit → Act → World → Prop} (w : World) (hg : o.guard = none) (s x : Operand)
    (ho : o.op = Op.call { callee := Callee.builtin Builtin.append, args := #[s, x], argTypes := #[34, 34] })
    (A C : Option Addr) (n m c : Nat) (xs ys : List Int) (hs : a.eval s = .slice A n n) (hx : a.eval x = .slice C m c) (rx : Row w (.slice A n n) xs) (ry : Row w (.slice C m c) ys) (hn : n ≤ 64) (hm : m ≤ 64)
    (hK : ∀ v' w', Row w' v' (xs ++ ys) → Below w.heap.size w w' → wpList Try.prog ops Q rest (a.put o.dst v') w') : wpList Try.prog ops Q (o :: rest) a w := by
  have en := rx.len
  have em := ry.len
  rcases Nat.eq_zero_or_pos m with h0 | h0
  · subst h0
    obtain rfl : ys = [] := List.eq_nil_of_length_eq_zero em.symm
    refine wpList_plain hg fun K hK' => ?_
    unfold Oper.wp
    simp [execOp, ho, resolve, invoke, builtin, hs, hx, run_append_none, Result.andThen]
    exact hK' _ _ (hK _ _ (by rw [List.append_nil]; exact rx) (Below.refl _ _))
  · obtain ⟨i, hi, hz0, hz1, hz2⟩ := info_parts info31
    obtain ⟨b, off, rfl, hc⟩ := ry.at_ (k := 0) (by omega)
    refine wpList_append_grows w hg s x 34 ho 31 i (.int .u64 0) 1 8 Try.underlying34 hi hz0 hz1 hz2 rfl (by decide) A n n (cellsOf xs) hs ?_ (by simp [cellsOf, en]) ?_ ⟨b, off, none⟩ m c (cellsOf ys) hx (by simp [cellsOf, em]) ?_ ?_ (by omega) (by unfold maxLen; omega) (by omega) ?_
    · rintro rfl
      rcases Nat.eq_zero_or_pos n with h1 | h1
      · exact ⟨h1, h1⟩
      · obtain ⟨_, _, h2, _⟩ := rx.at_ (k := 0) (by omega)
        cases h2
    · rintro b' rfl j u hu
      obtain ⟨hj, rfl⟩ := cellsOf_at hu
      obtain ⟨b2, off2, h2, hc2⟩ := rx.at_ hj
      injection h2 with h2
      subst h2
      rw [Go.WideShapes.add_plain]
      exact hc2 j hj
    · intro j u hu
      obtain ⟨hj, rfl⟩ := cellsOf_at hu
      rw [Go.WideShapes.add_plain]
      exact hc j hj
    · intro u hu
      obtain ⟨z, _, rfl⟩ := List.mem_map.1 hu
      rfl
    · intro v' w' hown hgr
      refine hK v' w' (row_of_own (base := w.heap.size) (n := n + m) ?_) ((Below.refl _ w).grown hgr (Nat.le_refl _) (fun k e => by cases e))
      have : cellsOf (xs ++ ys) = cellsOf xs ++ cellsOf ys := by simp [cellsOf]
      rw [this]
      exact hown
end Go.Proofs.Ytjefgnkekodljaa
