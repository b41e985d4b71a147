/-
  The document's functions: a byte, an id, a row.
-/
import Derived.Test.YtjefgnkekodljaaRefPlain
import Derived.Test.YtjefgnkekodljaaRow
import Derived.WalkSmall
namespace Go.Proofs.Ytjefgnkekodljaa
open Go.RowKit

theorem ret_u64 {a b : Int} (h : a = b) : Ending.returned (.int .u64 a) = .returned (.int .u64 b) := by rw [h]

set_option maxRecDepth 100000 in
set_option maxHeartbeats 2000000 in
theorem refByte_any (h b : Int) (w : World) (hh : In64 h) (b0 : 0 ≤ b) (b1 : b < 256) :
    Calls Try.prog 23 #[.int .u64 h, .int .u8 b] w fun e w' => e = .returned (.int .u64 (stepA h b)) ∧ Below w.heap.size w w' := by
  have HL : Hid (IntKind.u64.wrap (IntKind.u64.wrap (IntKind.u64.wrap (h - h % 256) + turned h b 8) * 1099511628211) = stepA h b) := byte_wraps hh b0 b1
  have h0 := hh.1
  clear hh
  have l0 := mod_lo (h := h) (many := 256) (by omega)
  have l1 := mod_hi (h := h) (many := 256) (by omega)
  go_enter Try.func23, Try.ntmps23
  go_wp2
  go_loopw [6, 7, 10] (fun t s i wr => ∃ k : Nat, k ≤ 8 ∧ i = .int .i64 k ∧ t = .int .u64 (turned h b k) ∧ s = .int .u64 (bitk k) ∧ Below w.heap.size w wr) (fun _ _ i _ => 8 - (intOf i).toNat)
  case atStart => exact ⟨0, by omega, rfl, by rw [turned_zero], rfl, Below.refl _ _⟩
  case round =>
    obtain ⟨k, hk, rfl, rfl, rfl, hb⟩ := hrel
    have t0 := turned_lo h b k
    have t1 := turned_hi (h := h) (b := b) hk
    have s0 := bitk_lo k
    have s1 := bitk_hi hk
    by_cases hlt : k < 8
    · have HS : Hid (turned h b (k + 1) = if h % 256 / bitk k % 2 = b / bitk k % 2 then turned h b k else turned h b k + bitk k) := turned_succ h0 b0 k
      have HB : Hid (bitk (k + 1) = 2 * bitk k) := bitk_succ k
      have q1 : 0 ≤ h % 256 / bitk k := Int.ediv_nonneg l0 (by omega)
      have q2 : 0 ≤ b / bitk k := Int.ediv_nonneg b0 (by omega)
      by_cases hq : h % 256 / bitk k % 2 = b / bitk k % 2
      · have HT : Hid (turned h b (k + 1) = turned h b k) := by have e := HS.out; rw [if_pos hq] at e; exact e
        have hq' : (h % 256 / bitk k % 2 != b / bitk k % 2) = false := by rw [hq]; exact bne_self_eq_false _
        clear HS hq
        go_wp2
        go_region
        go_wp2
        go_roundw
        case rel => exact ⟨k + 1, by omega, by go_num, by rw [HT.out], by rw [HB.out], hb.drew⟩
        case measure => simp [intOf]; omega
      · have HT : Hid (turned h b (k + 1) = turned h b k + bitk k) := by have e := HS.out; rw [if_neg hq] at e; exact e
        have hq' : (h % 256 / bitk k % 2 != b / bitk k % 2) = true := bne_iff_ne.2 hq
        clear HS hq
        go_wp2
        go_region
        go_wp2
        go_roundw
        case rel => exact ⟨k + 1, by omega, by go_num, by rw [HT.out], by rw [HB.out], hb.drew⟩
        case measure => simp [intOf]; omega
    · obtain rfl : k = 8 := by omega
      go_wp2
      go_ret
      exact ⟨ret_u64 HL.out, hb⟩

set_option maxRecDepth 100000 in
set_option maxHeartbeats 2000000 in
theorem refAdd_any (h id : Int) (w : World) (hh : In64 h) (hi : In64 id) :
    Calls Try.prog 18 #[.int .u64 h, .int .u64 id] w fun e w' => e = .returned (.int .u64 (addF h id)) ∧ Below w.heap.size w w' := by
  have i0 := hi.1
  have HI : Hid (In64 id) := hi
  have HH : Hid (In64 h) := hh
  clear hh hi
  go_enter Try.func18, Try.ntmps18
  go_wp2
  go_loopw [0, 1, 5] (fun x y i wr => ∃ (k : Nat) (z : Int), k ≤ 8 ∧ i = .int .i64 k ∧ x = .int .u64 ((upto (byt id) k).foldl stepA h) ∧ y = .int .u64 z ∧ Hid (z = id / 2 ^ (8 * k)) ∧ Below w.heap.size w wr) (fun _ _ i _ => 8 - (intOf i).toNat)
  case atStart => exact ⟨0, id, by omega, rfl, rfl, rfl, by show id = id / 2 ^ (8 * 0); simp, Below.refl _ _⟩
  case round =>
    obtain ⟨k, z, hk, rfl, rfl, rfl, hz, hb⟩ := hrel
    by_cases hlt : k < 8
    · have z0 : 0 ≤ z := by rw [hz.out]; exact Int.ediv_nonneg i0 (Int.le_of_lt (Int.pow_pos (by decide)))
      have z1 := mod_lo (h := z) (many := 256) (by omega)
      have z2 := mod_hi (h := z) (many := 256) (by omega)
      have HD : Hid (IntKind.u64.wrap (z.tdiv 256) = z / 256) := by
        have e1 : z ≤ id := by rw [hz.out]; exact Int.ediv_le_self _ i0
        have e2 := HI.out.2
        show IntKind.u64.wrap (z.tdiv 256) = z / 256
        rw [Int.tdiv_eq_ediv_of_nonneg z0, IntKind.wrap_u64]
        omega
      have HX : Hid (In64 ((upto (byt id) k).foldl stepA h)) := by
        cases k with
        | zero => exact HH.out
        | succ k => rw [upto_succ, List.foldl_append]; exact stepA_in _ _
      have HS : Hid (stepA ((upto (byt id) k).foldl stepA h) (z % 256) = (upto (byt id) (k + 1)).foldl stepA h) := by
        have e := byt_mod HI.out.1 HI.out.2 k
        rw [← hz.out] at e
        rw [← e, upto_succ, List.foldl_append]
        rfl
      generalize (upto (byt id) k).foldl stepA h = x at HX HS ⊢
      go_wp2_with (go_at_call 23; refine (refByte_any _ _ _ HX.out z1 z2).mono ?_; rintro e w4 ⟨rfl, hb4⟩)
      replace hb := hb.trans (hb4.mono hb.size)
      go_roundw
      case rel => exact ⟨k + 1, z / 256, by omega, by go_num, by rw [HS.out], by rw [HD.out], by show z / 256 = id / 2 ^ (8 * (k + 1)); rw [shift_succ, hz.out], hb⟩
      case measure => simp [intOf]; omega
    · obtain rfl : k = 8 := by omega
      go_wp2
      go_ret
      exact ⟨rfl, hb⟩
end Go.Proofs.Ytjefgnkekodljaa
