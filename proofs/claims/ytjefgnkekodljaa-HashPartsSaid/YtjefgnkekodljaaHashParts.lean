/-
  HashParts: the hash of two rows, one behind the other, is that of the first one, to which the second one's ids are added; from behind, id by id, it is undone; for every two rows. No condition.
-/
import Derived.Test.YtjefgnkekodljaaAppend
import Derived.Deep.QuietTactic
import Derived.BigQuiet
import Derived.WalkSmall
import Derived.WalkKit
import Derived.ProofKit
import Derived.OpenShut
import Derived.ShutString
import Derived.ChangeOld
import Derived.Below
namespace Go.Proofs.Ytjefgnkekodljaa.hashParts
open Go.ChangeShapes Go.WideShapes Go.ChangeAt Go.RowKit
open Go.ChangeMaps (open_string shut_string)
set_option linter.unusedVariables false

theorem own : ownKnob Try.prog.godebug = none := by kernel_rfl
theorem laidOut : laidOutB Try.prog = true := by kernel_rfl


theorem snocD (f : Int → Int → Int) (xs : List Int) (k : Nat) (hk : k < xs.length) (h : Int) : (xs.take (k + 1)).foldl f h = f ((xs.take k).foldl f h) (xs[k]?.getD 0) := by
  rw [foldl_snoc f xs k hk h, List.getElem?_eq_getElem hk]
  rfl
theorem undo (xs : List Int) (k : Nat) (hk : k < xs.length) (h : Int) (hh : In64 h) : backF ((xs.take (k + 1)).foldl addF h) (xs[k]?.getD 0) = (xs.take k).foldl addF h := by
  rw [snocD addF xs k hk h, backF_addF (foldA_in _ _ hh)]
theorem of_append (xs ys : List Int) : ofF (xs ++ ys) = ys.foldl addF (ofF xs) := by
  unfold ofF
  rw [List.foldl_append]

set_option maxRecDepth 100000 in
set_option maxHeartbeats 4000000 in
theorem parts (A C : Option Addr) (lx cx ly cy n m : Nat) (xs ys : List Int) (w : World) (hlx : lx ≤ cx) (hly : ly ≤ cy) (hn : n ≤ lx) (hm : m ≤ ly) (hn' : n ≤ 20) (hm' : m ≤ 20)
    (en : (if (20 : Int) < (lx : Int) then 20 else (lx : Int)) = n) (em : (if (20 : Int) < (ly : Int) then 20 else (ly : Int)) = m)
    (rx : Row w (.slice A n n) xs) (ry : Row w (.slice C m cy) ys) :
    Calls Try.prog 5 #[.slice A lx cx, .slice C ly cy] w fun e w' => e = .returned (.bool true) ∧ Below w.heap.size w w' := by
  have lenx : Hid (n = xs.length) := rx.len
  have leny : Hid (m = ys.length) := ry.len
  have hne : (ofF (xs ++ ys) != ys.foldl addF (ofF xs)) = false := by rw [of_append]; exact bne_self_eq_false _
  go_enter Try.func5, Try.ntmps5
  go_wp2_with (go_at_call 8; refine (wakes_any _).mono ?_; rintro e w1 ⟨rfl, hb1⟩)
  go_region
  clear en em
  have hb := hb1.drew
  clear hb1
  generalize w1.drew = w2 at hb ⊢
  go_wp2_with (go_at_call 14; refine (of_any (rx.below hb)).mono ?_; rintro e w3 ⟨rfl, hb3⟩; replace hb := hb.trans (hb3.mono hb.size); clear hb3)
  go_loopw [7, 31] (fun x i wr => ∃ k : Nat, k ≤ m ∧ i = .int .i64 k ∧ x = .int .u64 ((ys.take k).foldl addF (ofF xs)) ∧ Below w.heap.size w wr) (fun _ i _ => m - (intOf i).toNat)
  case atStart => exact ⟨0, Nat.zero_le _, rfl, rfl, hb⟩
  case round =>
    clear hb
    obtain ⟨k, hk, rfl, rfl, hb⟩ := hrel
    by_cases hlt : k < m
    · have hlt' : k < ys.length := by have := leny.out; omega
      have hsn : Hid ((ys.take (k + 1)).foldl addF (ofF xs) = addF ((ys.take k).foldl addF (ofF xs)) (ys[k]?.getD 0)) := snocD addF ys k hlt' _
      obtain ⟨b, off, rfl, hcell⟩ := (ry.below hb).at_ hlt'
      have hc := hcell k hlt'
      clear hcell hlt'
      generalize ys[k]?.getD 0 = z at hc hsn
      go_wp2_with (go_at_call 12; refine (add_any _ _ _).mono ?_; rintro e w4 ⟨rfl, hb4⟩)
      replace hb := hb.trans (hb4.mono hb.size)
      go_roundw
      case rel => exact ⟨k + 1, by omega, by go_num, by rw [hsn.out], hb⟩
      case measure => simp [intOf]; omega
    · obtain rfl : m = k := by omega
      rw [List.take_of_length_le (by have := leny.out; omega)]
      go_wp2_with (first | (at_builtin; refine wpList_append_row _ rfl _ _ rfl A C n m cy xs ys rfl rfl (rx.below hb) (ry.below hb) (by omega) (by omega) ?_; intro v' w4 hrow hb4; replace hb := hb.trans (hb4.mono hb.size); clear hb4) | (go_at_call 14; refine (of_any hrow).mono ?_; rintro e w5 ⟨rfl, hb5⟩; replace hb := hb.trans (hb5.mono hb.size); clear hb5 hrow))
      clear hne
      go_loopw [7, 10] (fun x i wr => ∃ (k : Nat) (j : Int), k ≤ m ∧ Hid (j = (k : Int) - 1) ∧ i = .int .i64 j ∧ x = .int .u64 ((ys.take k).foldl addF (ofF xs)) ∧ Below w.heap.size w wr) (fun _ i _ => (intOf i + 1).toNat)
      case atStart => exact ⟨m, (m : Int) - 1, Nat.le_refl _, rfl, rfl, by rw [List.take_of_length_le (by have := leny.out; omega)], hb⟩
      case round =>
        clear hb
        obtain ⟨k, j, hk, hj, rfl, rfl, hb⟩ := hrel
        cases k with
        | succ t =>
          obtain rfl : j = (t : Int) := by have := hj.out; omega
          clear hj
          have hlt' : t < ys.length := by have := leny.out; omega
          have hun : Hid (backF ((ys.take (t + 1)).foldl addF (ofF xs)) (ys[t]?.getD 0) = (ys.take t).foldl addF (ofF xs)) := undo ys t hlt' _ (ofF_in xs)
          obtain ⟨b, off, rfl, hcell⟩ := (ry.below hb).at_ hlt'
          have hc := hcell t hlt'
          clear hcell hlt'
          generalize ys[t]?.getD 0 = z at hc hun
          go_wp2_with (go_at_call 13; refine (backI_any _ _ _).mono ?_; rintro e w4 ⟨rfl, hb4⟩)
          replace hb := hb.trans (hb4.mono hb.size)
          go_roundw
          case rel => exact ⟨t, (t : Int) - 1, by omega, rfl, rfl, by rw [hun.out], hb⟩
          case measure => simp [intOf]
        | zero =>
          obtain rfl : j = -1 := by have := hj.out; omega
          clear hj
          rw [List.take_zero, List.foldl_nil]
          go_wp2_with fail
          go_loopw [7, 11] (fun x i wr => ∃ (k : Nat) (j : Int), k ≤ n ∧ Hid (j = (k : Int) - 1) ∧ i = .int .i64 j ∧ x = .int .u64 ((xs.take k).foldl addF 14695981039346656037) ∧ Below w.heap.size w wr) (fun _ i _ => (intOf i + 1).toNat)
          case atStart => exact ⟨n, (n : Int) - 1, Nat.le_refl _, rfl, rfl, by rw [List.take_of_length_le (by have := lenx.out; omega)]; rfl, hb⟩
          case round =>
            clear hb
            obtain ⟨k, j, hk, hj, rfl, rfl, hb⟩ := hrel
            cases k with
            | succ t =>
              obtain rfl : j = (t : Int) := by have := hj.out; omega
              clear hj
              have hlt' : t < xs.length := by have := lenx.out; omega
              have hun : Hid (backF ((xs.take (t + 1)).foldl addF 14695981039346656037) (xs[t]?.getD 0) = (xs.take t).foldl addF 14695981039346656037) := undo xs t hlt' _ ⟨by decide, by decide⟩
              obtain ⟨b, off, rfl, hcell⟩ := (rx.below hb).at_ hlt'
              have hc := hcell t hlt'
              clear hcell hlt'
              generalize xs[t]?.getD 0 = z at hc hun
              go_wp2_with (go_at_call 13; refine (backI_any _ _ _).mono ?_; rintro e w4 ⟨rfl, hb4⟩)
              replace hb := hb.trans (hb4.mono hb.size)
              go_roundw
              case rel => exact ⟨t, (t : Int) - 1, by omega, rfl, rfl, by rw [hun.out], hb⟩
              case measure => simp [intOf]
            | zero =>
              obtain rfl : j = -1 := by have := hj.out; omega
              clear hj
              rw [List.take_zero, List.foldl_nil]
              go_wp2_with fail
              go_ret
              exact ⟨rfl, hb⟩

/-- The first n of a row, of which no more than n cells are left. -/
theorem cut {w : World} {a : Option Addr} {len cap : Nat} {xs : List Int} (n c : Nat) (h : Row w (.slice a len cap) xs) (hn : n ≤ len) (hc : n ≤ c) : Row w (.slice a n c) (xs.take n) := by
  have hl := h.len
  rcases Nat.eq_zero_or_pos n with h0 | h0
  · subst h0
    exact .inl ⟨by simp, _, _, rfl⟩
  · obtain ⟨b, off, rfl, hcell⟩ := h.at_ (k := 0) (by omega)
    have hl' : (xs.take n).length = n := by simp; omega
    rcases h with ⟨rfl, _⟩ | ⟨_, _, _, _, _, _, hm, _⟩
    · simp at hl; omega
    refine .inr ⟨by omega, b, off, c, by rw [hl'], by omega, by omega, fun j hj => ?_⟩
    rw [hcell j (by omega), List.getElem?_take_of_lt (by omega)]

theorem lens {w : World} {a : Option Addr} {len cap : Nat} {zs : List Int} (h : IsRow .u64 w a len cap zs) : len ≤ cap := by
  rcases h with ⟨_, rfl, rfl, _⟩ | ⟨_, _, hl, _⟩
  · exact Nat.le_refl _
  · exact hl

theorem least (l : Nat) : ∃ n : Nat, n ≤ l ∧ n ≤ 20 ∧ (if (20 : Int) < (l : Int) then 20 else (l : Int)) = n := by
  by_cases h : 20 < l
  · exact ⟨20, by omega, by omega, if_pos (by omega)⟩
  · exact ⟨l, by omega, by omega, if_neg (by omega)⟩

theorem walk (a0 : Option Addr) (len0 cap0 : Nat) (z0 : List Int) (a1 : Option Addr) (len1 cap1 : Nat) (z1 : List Int) (w : World) (w0 : IsRow .u64 w a0 len0 cap0 z0) (w1 : IsRow .u64 w a1 len1 cap1 z1) :
    Calls Try.prog 5 #[.slice a0 len0 cap0, .slice a1 len1 cap1] w fun e w' => e = .returned (.bool true) ∧ Below w.heap.size w w' := by
  obtain ⟨xs, rx, _⟩ := row_of w0
  obtain ⟨ys, ry, _⟩ := row_of w1
  obtain ⟨n, n1, n2, n3⟩ := least len0
  obtain ⟨m, m1, m2, m3⟩ := least len1
  exact parts a0 a1 len0 cap0 len1 cap1 n m _ _ w (lens w0) (lens w1) n1 m1 n2 m2 n3 m3 (cut n n rx n1 (Nat.le_refl _)) (cut m cap1 ry m1 (Nat.le_trans m1 (lens w1)))

/-! ### THE ROW's STEP: WRITTEN OUT: LEAVE IT -/
set_option maxRecDepth 100000 in
theorem lifted (os : Os) (started : os.Started) (H : Type) (enc : TypeId × Value → H) :
    ReturnsInHanded {} Try.checked os 5 .any (Rows.hashPartsSpec.pre6 enc Try.prog Try.f5 Rows.hashPartsRow.domain false) (Rows.hashPartsSpec.post enc Try.prog Try.f5 false true false false) := by
  refine returnsInHanded_of_change (C := Try.checked) own started (by kernel_rfl) Try.func5
    (ChangeSpec.witness6 (enc := enc) (C := Try.checked) false ⟨#[], #[.slice none 0 0, .slice none 0 0], []⟩ 8 (by kernel_rfl) (by kernel_rfl) (by kernel_rfl) (by kernel_rfl)) ?_
  intro W base args ds gs before hval0 hW hcnd _
  have hval : ∀ (j : Nat) t v, Try.f5.params[j]? = some t → args[j]? = some v → Value.okWide Try.prog W .any base t v := hval0
  have hW' := hW
  obtain ⟨p, q, hA0, hV, rfl, hfz, hnd⟩ := hW
  have hA : DataW.TrodAll enc Try.prog W 0 (fun _ => true) true Try.f5.params.toList args.toList ds p := hA0
  rw [Try.params5] at hA hval
  obtain ⟨v0, vs0, d0, ds0, p0, q0, hargs, rfl, rfl, h0, r0⟩ := trodAll_cons hA
  obtain ⟨v1, vs1, d1, ds1, p1, q1, rfl, rfl, rfl, h1, r1⟩ := trodAll_cons r0
  obtain ⟨rfl, rfl, rfl⟩ := trodAll_nil r1
  obtain rfl : args = #[v0, v1] := by cases args; simp_all
  obtain ⟨rfl, rfl⟩ := trodVars_none hV
  obtain ⟨a0, len0, cap0, rfl⟩ := okWide_slice Try.underlying34 (hval 0 34 v0 rfl rfl)
  have k0 := h0
  have lt0 : ∀ x ∈ p0, x.block < W.heap.size := by obtain ⟨m, hm⟩ := k0; exact DataW.trod_lt m _ _ _ hm
  obtain ⟨z0, w0⟩ : ∃ zs, IsRow .u64 W a0 len0 cap0 zs := by
    obtain ⟨fuel, hf⟩ := h0
    rcases open_ints Try.underlying34 Try.underlying31 (by kernel_rfl) hf with ⟨hcs, _⟩ | ⟨x, l, c, zs, hcs, _, hl, hm, hz, _, hcell, hwz⟩
    · simp [Value.cells] at hcs
      obtain ⟨rfl, rfl, rfl⟩ := hcs
      exact ⟨[], .inl ⟨rfl, rfl, rfl, rfl⟩⟩
    · simp [Value.cells] at hcs
      obtain ⟨rfl, rfl, rfl⟩ := hcs
      exact ⟨zs, .inr ⟨_, rfl, hl, hm, by simpa using hz, hcell, hwz⟩⟩
  obtain ⟨a1, len1, cap1, rfl⟩ := okWide_slice Try.underlying34 (hval 1 34 v1 rfl rfl)
  have k1 := h1
  have lt1 : ∀ x ∈ p1, x.block < W.heap.size := by obtain ⟨m, hm⟩ := k1; exact DataW.trod_lt m _ _ _ hm
  obtain ⟨z1, w1⟩ : ∃ zs, IsRow .u64 W a1 len1 cap1 zs := by
    obtain ⟨fuel, hf⟩ := h1
    rcases open_ints Try.underlying34 Try.underlying31 (by kernel_rfl) hf with ⟨hcs, _⟩ | ⟨x, l, c, zs, hcs, _, hl, hm, hz, _, hcell, hwz⟩
    · simp [Value.cells] at hcs
      obtain ⟨rfl, rfl, rfl⟩ := hcs
      exact ⟨[], .inl ⟨rfl, rfl, rfl, rfl⟩⟩
    · simp [Value.cells] at hcs
      obtain ⟨rfl, rfl, rfl⟩ := hcs
      exact ⟨zs, .inr ⟨_, rfl, hl, hm, by simpa using hz, hcell, hwz⟩⟩
  clear hA0 hval0
  refine (walk a0 len0 cap0 z0 a1 len1 cap1 z1 W w0 w1).mono fun e W' ⟨he, bel⟩ => ?_
  subst he
  exact ⟨_, rfl, _, _, _, [], _, [], hW', trodAll_mk1 (shut_bool Try.underlying4 _), (trodAll_cons_mk (Below.trod laidOut (by kernel_rfl) (of_decide_eq_true (by kernel_rfl)) k0 bel lt0) (trodAll_cons_mk (Below.trod laidOut (by kernel_rfl) (of_decide_eq_true (by kernel_rfl)) k1 bel lt1) trodAll_mk0)), rfl, bel.frame _, fun h => by cases h⟩

theorem over : Rows.hashPartsRow.holds Try.pinned (OpenSpec.ofChange Rows.hashPartsSpec) :=
  OpenClaim.holds_of_wide 5 Try.f5 rfl rfl rfl rfl rfl rfl rfl ⟨rfl, rfl, rfl, rfl, rfl⟩ rfl rfl rfl rfl rfl (by kernel_rfl) Try.func5 (by kernel_rfl)
    (of_decide_eq_true (by kernel_rfl)) (by unfold Func.isWrapper; first | (rw [if_pos (by decide +kernel)]; kernel_rfl) | (rw [if_neg (by decide +kernel)]; exact ⟨rfl, rfl⟩))
    (fun os started H enc _ => lifted os started H enc)

/-- ████ THE STATEMENT ████ -/
theorem proved : Rows.HashPartsSaid := over
#print axioms proved
end Go.Proofs.Ytjefgnkekodljaa.hashParts
