/-
  The document's way to add a byte, plainly: bit by bit it comes to the same.
-/
import Derived.Test.YtjefgnkekodljaaPlain
namespace Go.Proofs.Ytjefgnkekodljaa
open Go.RowKit

/-- The lowest k bits of the byte in which h's lowest eight and b differ. -/
def turned (h b : Int) (k : Nat) : Int := (((h.toNat % 256) ^^^ b.toNat) % 2 ^ k : Nat)
def bitk (k : Nat) : Int := ((2 ^ k : Nat) : Int)

theorem turned_zero (h b : Int) : turned h b 0 = 0 := by simp [turned, Nat.mod_one]
theorem bitk_zero : bitk 0 = 1 := rfl
theorem bitk_succ (k : Nat) : bitk (k + 1) = 2 * bitk k := by
  unfold bitk
  rw [Nat.pow_succ]
  omega
theorem bitk_lo (k : Nat) : 1 ≤ bitk k := by
  unfold bitk
  have := Nat.two_pow_pos k
  omega
theorem bitk_hi {k : Nat} (hk : k ≤ 8) : bitk k ≤ 256 := by
  unfold bitk
  have : 2 ^ k ≤ 2 ^ 8 := Nat.pow_le_pow_right (by omega) hk
  omega
theorem turned_lo (h b : Int) (k : Nat) : 0 ≤ turned h b k := by unfold turned; omega
theorem turned_hi {h b : Int} {k : Nat} (hk : k ≤ 8) : turned h b k ≤ 255 := by
  unfold turned
  have h1 : 2 ^ k ≤ 2 ^ 8 := Nat.pow_le_pow_right (by omega) hk
  have h2 := Nat.mod_lt ((h.toNat % 256) ^^^ b.toNat) (Nat.two_pow_pos k)
  omega

theorem bit_xor (x y k : Nat) : (x ^^^ y) / 2 ^ k % 2 = if x / 2 ^ k % 2 = y / 2 ^ k % 2 then 0 else 1 := by
  rw [Nat.xor_div_two_pow]
  have h : (x / 2 ^ k ^^^ y / 2 ^ k) % 2 = (x / 2 ^ k % 2) ^^^ (y / 2 ^ k % 2) := Nat.xor_mod_two_pow (n := 1)
  rw [h]
  rcases Nat.mod_two_eq_zero_or_one (x / 2 ^ k) with h1 | h1 <;> rcases Nat.mod_two_eq_zero_or_one (y / 2 ^ k) with h2 | h2 <;> rw [h1, h2] <;> rfl

theorem turned_succ {h b : Int} (h0 : 0 ≤ h) (b0 : 0 ≤ b) (k : Nat) :
    turned h b (k + 1) = if h % 256 / bitk k % 2 = b / bitk k % 2 then turned h b k else turned h b k + bitk k := by
  obtain ⟨H, rfl⟩ := Int.eq_ofNat_of_zero_le h0
  obtain ⟨B, rfl⟩ := Int.eq_ofNat_of_zero_le b0
  have e1 : (H : Int) % 256 / bitk k % 2 = ((H % 256 / 2 ^ k % 2 : Nat) : Int) := by unfold bitk; simp
  have e2 : (B : Int) / bitk k % 2 = ((B / 2 ^ k % 2 : Nat) : Int) := by unfold bitk; simp
  rw [e1, e2]
  unfold turned bitk
  simp only [Int.toNat_natCast]
  rw [Nat.mod_pow_succ, bit_xor]
  by_cases e : H % 256 / 2 ^ k % 2 = B / 2 ^ k % 2
  · rw [if_pos e, if_pos (by omega)]
    simp
  · rw [if_neg e, if_neg (by omega)]
    simp

theorem xor_low (H B : Nat) (hB : B < 256) : H ^^^ B = H - H % 256 + ((H % 256) ^^^ B) := by
  have e1 : (H ^^^ B) / 256 = H / 256 := by
    have : (H ^^^ B) / 2 ^ 8 = H / 2 ^ 8 ^^^ B / 2 ^ 8 := Nat.xor_div_two_pow
    rw [show (2 : Nat) ^ 8 = 256 from rfl, Nat.div_eq_of_lt hB, Nat.xor_zero] at this
    exact this
  have e2 : (H ^^^ B) % 256 = (H % 256) ^^^ B := by
    have : (H ^^^ B) % 2 ^ 8 = (H % 2 ^ 8) ^^^ (B % 2 ^ 8) := Nat.xor_mod_two_pow
    rw [show (2 : Nat) ^ 8 = 256 from rfl, Nat.mod_eq_of_lt hB] at this
    exact this
  have e3 := Nat.div_add_mod (H ^^^ B) 256
  have e4 := Nat.div_add_mod H 256
  rw [e1, e2] at e3
  omega

/-- The document's byte is the program's. -/
theorem byte_law {h b : Int} (hh : In64 h) (b0 : 0 ≤ b) (b1 : b < 256) : IntKind.u64.wrap ((h - h % 256 + turned h b 8) * 1099511628211) = stepA h b := by
  obtain ⟨h0, h1⟩ := hh
  obtain ⟨H, rfl⟩ := Int.eq_ofNat_of_zero_le h0
  obtain ⟨B, rfl⟩ := Int.eq_ofNat_of_zero_le b0
  unfold stepA
  rw [bits_xor_u64_nat H B (by omega) (by omega), xor_low H B (by omega)]
  have e1 : turned (H : Int) (B : Int) 8 = (((H % 256) ^^^ B : Nat) : Int) := by
    unfold turned
    simp only [Int.toNat_natCast]
    have : (H % 256) ^^^ B < 2 ^ 8 := Nat.xor_lt_two_pow (by omega) (by omega)
    rw [Nat.mod_eq_of_lt this]
  rw [e1]
  have e2 : H % 256 ≤ H := Nat.mod_le _ _
  rw [Int.natCast_add, Int.natCast_sub e2]
  rfl

theorem byte_wraps {h b : Int} (hh : In64 h) (b0 : 0 ≤ b) (b1 : b < 256) : IntKind.u64.wrap (IntKind.u64.wrap (IntKind.u64.wrap (h - h % 256) + turned h b 8) * 1099511628211) = stepA h b := by
  rw [← byte_law hh b0 b1]
  obtain ⟨h0, h1⟩ := hh
  have t0 := turned_lo h b 8
  have t1 := turned_hi (h := h) (b := b) (k := 8) (by omega)
  have e : IntKind.u64.wrap (IntKind.u64.wrap (h - h % 256) + turned h b 8) = h - h % 256 + turned h b 8 := by
    rw [IntKind.wrap_u64, IntKind.wrap_u64]
    omega
  rw [e]

theorem byt_mod {id : Int} (h0 : 0 ≤ id) (h1 : id < 18446744073709551616) (k : Nat) : byt id k = id / 2 ^ (8 * k) % 256 := by
  obtain ⟨I, rfl⟩ := Int.eq_ofNat_of_zero_le h0
  unfold byt
  have e1 : (I : Int) / 2 ^ (8 * k) = ((I / 2 ^ (8 * k) : Nat) : Int) := by simp
  have e2 : I / 2 ^ (8 * k) ≤ I := Nat.div_le_self _ _
  have e3 := bits_and_u64_nat (I / 2 ^ (8 * k)) 255 (by omega) (by omega)
  rw [e1]
  rw [show ((255 : Nat) : Int) = 255 from rfl] at e3
  rw [e3]
  have e4 : I / 2 ^ (8 * k) &&& 255 = I / 2 ^ (8 * k) % 256 := Nat.and_two_pow_sub_one_eq_mod _ 8
  rw [e4]
  rfl
theorem shift_succ (id : Int) (k : Nat) : id / 2 ^ (8 * (k + 1)) = id / 2 ^ (8 * k) / 256 := by
  rw [Int.ediv_ediv_of_nonneg (by exact Int.le_of_lt (Int.pow_pos (by decide)))]
  congr 1
  rw [Nat.mul_add, Int.pow_add]
  rfl
end Go.Proofs.Ytjefgnkekodljaa
