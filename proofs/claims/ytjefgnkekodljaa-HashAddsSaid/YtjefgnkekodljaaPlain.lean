/-
  The plain law of the hash: what was added is taken back; no program in sight.
-/
import Derived.WalkKit
namespace Go.Proofs.Ytjefgnkekodljaa
open Go.RowKit

/-- A byte is added, as the walk spells it. -/
def stepA (h b : Int) : Int := IntKind.u64.wrap (bits .xor .u64 h b * 1099511628211)
/-- A byte is taken back, as the walk spells it. -/
def stepB (h b : Int) : Int := bits .xor .u64 (IntKind.u64.wrap (h * 14886173955864302971)) b
/-- Byte number k of an id, as the walk spells it. -/
def byt (id : Int) (k : Nat) : Int := bits .and .u64 (id / 2 ^ (8 * k)) 255

/-- The first k of what f counts. -/
def upto (f : Nat → Int) (k : Nat) : List Int := (List.range k).map f
theorem upto_succ (f : Nat → Int) (k : Nat) : upto f (k + 1) = upto f k ++ [f k] := by simp [upto, List.range_succ]
theorem upto_length (f : Nat → Int) (k : Nat) : (upto f k).length = k := by simp [upto]

/-- An id is added. -/
def addF (h id : Int) : Int := (upto (byt id) 8).foldl stepA h
/-- An id is taken back. -/
def backF (h id : Int) : Int := (upto (fun k => byt id (7 - k)) 8).foldl stepB h
/-- The hash of a row. -/
def ofF (l : List Int) : Int := l.foldl addF 14695981039346656037

/-- A number of 64 bits. -/
def In64 (x : Int) : Prop := 0 ≤ x ∧ x < 18446744073709551616

theorem in64_wf {x : Int} (h : (Lit.int .u64 x).wf = true) : In64 x := by
  simp [Lit.wf, IntKind.min, IntKind.max, IntKind.bits, IntKind.signed] at h
  exact ⟨by omega, by omega⟩
theorem wf_in64 {x : Int} (h : In64 x) : (Lit.int .u64 x).wf = true := by
  obtain ⟨h1, h2⟩ := h
  simp [Lit.wf, IntKind.min, IntKind.max, IntKind.bits, IntKind.signed]
  omega

/-- The 64 bits of a number. -/
def bv (x : Int) : BitVec 64 := BitVec.ofInt 64 x
/-- The number of 64 bits. -/
def nv (x : BitVec 64) : Int := (x.toNat : Int)

theorem bv_nv (x : BitVec 64) : bv (nv x) = x := by
  apply BitVec.eq_of_toNat_eq
  have := x.isLt
  simp [bv, nv]
theorem nv_in (x : BitVec 64) : In64 (nv x) := by
  have := x.isLt
  unfold In64 nv
  omega
theorem nv_bv {x : Int} (h : In64 x) : nv (bv x) = x := by
  obtain ⟨h1, h2⟩ := h
  simp only [nv, bv, BitVec.toNat_ofInt]
  omega
theorem wrap_nv (x : Int) : IntKind.u64.wrap x = nv (bv x) := by
  rw [IntKind.wrap_u64]
  simp only [nv, bv, BitVec.toNat_ofInt]
  omega
theorem xor_nv (x y : Int) : bits .xor .u64 x y = nv (bv x ^^^ bv y) := by
  show IntKind.u64.wrap (nv (bv x ^^^ bv y)) = _
  rw [wrap_nv, bv_nv]
theorem and_nv (x y : Int) : bits .and .u64 x y = nv (bv x &&& bv y) := by
  show IntKind.u64.wrap (nv (bv x &&& bv y)) = _
  rw [wrap_nv, bv_nv]
theorem bv_mul (x y : Int) : bv (x * y) = bv x * bv y := BitVec.ofInt_mul ..

theorem stepA_nv (h b : Int) : stepA h b = nv ((bv h ^^^ bv b) * 1099511628211#64) := by
  unfold stepA
  rw [xor_nv, wrap_nv, bv_mul, bv_nv]
  rfl
theorem stepB_nv (h b : Int) : stepB h b = nv ((bv h * 14886173955864302971#64) ^^^ bv b) := by
  unfold stepB
  rw [xor_nv, wrap_nv, bv_mul, bv_nv]
  rfl

theorem prime_inv : 1099511628211#64 * 14886173955864302971#64 = 1#64 := by decide
theorem inv_prime : 14886173955864302971#64 * 1099511628211#64 = 1#64 := by decide

theorem stepA_in (h b : Int) : In64 (stepA h b) := by rw [stepA_nv]; exact nv_in _
theorem stepB_in (h b : Int) : In64 (stepB h b) := by rw [stepB_nv]; exact nv_in _
theorem byt_in (id : Int) (k : Nat) : In64 (byt id k) := by unfold byt; rw [and_nv]; exact nv_in _

theorem stepB_stepA {h : Int} (hh : In64 h) (b : Int) : stepB (stepA h b) b = h := by
  rw [stepA_nv, stepB_nv, bv_nv, BitVec.mul_assoc, prime_inv, BitVec.mul_one, BitVec.xor_assoc, BitVec.xor_self, BitVec.xor_zero, nv_bv hh]
theorem stepA_stepB {h : Int} (hh : In64 h) (b : Int) : stepA (stepB h b) b = h := by
  rw [stepB_nv, stepA_nv, bv_nv, BitVec.xor_assoc, BitVec.xor_self, BitVec.xor_zero, BitVec.mul_assoc, inv_prime, BitVec.mul_one, nv_bv hh]

theorem upto_eight (f : Nat → Int) : upto f 8 = [f 0, f 1, f 2, f 3, f 4, f 5, f 6, f 7] := rfl

theorem addF_in (h id : Int) : In64 (addF h id) := by
  unfold addF
  rw [upto_eight]
  exact stepA_in _ _
theorem backF_in (h id : Int) : In64 (backF h id) := by
  unfold backF
  rw [upto_eight]
  exact stepB_in _ _

theorem backF_addF {h : Int} (hh : In64 h) (id : Int) : backF (addF h id) id = h := by
  unfold backF addF
  rw [upto_eight, upto_eight]
  simp only [List.foldl, Nat.sub_zero, Nat.reduceSub]
  rw [stepB_stepA (stepA_in _ _), stepB_stepA (stepA_in _ _), stepB_stepA (stepA_in _ _), stepB_stepA (stepA_in _ _), stepB_stepA (stepA_in _ _), stepB_stepA (stepA_in _ _), stepB_stepA (stepA_in _ _), stepB_stepA hh]
theorem addF_backF {h : Int} (hh : In64 h) (id : Int) : addF (backF h id) id = h := by
  unfold backF addF
  rw [upto_eight, upto_eight]
  simp only [List.foldl, Nat.sub_zero, Nat.reduceSub]
  rw [stepA_stepB (stepB_in _ _), stepA_stepB (stepB_in _ _), stepA_stepB (stepB_in _ _), stepA_stepB (stepB_in _ _), stepA_stepB (stepB_in _ _), stepA_stepB (stepB_in _ _), stepA_stepB (stepB_in _ _), stepA_stepB hh]
theorem addF_inj {g h : Int} (hg : In64 g) (hh : In64 h) (id : Int) : addF g id = addF h id ↔ g = h :=
  ⟨fun e => by rw [← backF_addF hg id, e, backF_addF hh], fun e => by rw [e]⟩

theorem foldA_in (l : List Int) : ∀ h, In64 h → In64 (l.foldl addF h) := by
  induction l with
  | nil => intro h hh; exact hh
  | cons a l ih => intro h _; exact ih _ (addF_in _ _)
theorem ofF_in (l : List Int) : In64 (ofF l) := foldA_in l _ ⟨by decide, by decide⟩
theorem fold_undo {f g : Int → Int → Int} {R : Int → Prop} (hin : ∀ h a, R (f h a)) (hgf : ∀ h a, R h → g (f h a) a = h) (l : List Int) : ∀ h, R h → l.reverse.foldl g (l.foldl f h) = h := by
  induction l with
  | nil => intro h _; rfl
  | cons a l ih =>
    intro h hh
    rw [List.reverse_cons, List.foldl_append]
    show g (l.reverse.foldl g (l.foldl f (f h a))) a = h
    rw [ih _ (hin _ _)]
    exact hgf h a hh
/-- From behind, id by id, a row is taken back. -/
theorem foldB_foldA (l : List Int) (h : Int) (hh : In64 h) : l.reverse.foldl backF (l.foldl addF h) = h :=
  fold_undo (R := In64) addF_in (fun _ a hx => backF_addF hx a) l h hh
end Go.Proofs.Ytjefgnkekodljaa
