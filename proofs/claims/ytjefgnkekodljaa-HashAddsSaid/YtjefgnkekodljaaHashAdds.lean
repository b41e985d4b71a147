/-
  HashAdds: the hashes of ids, and of rows, are the document's; for every row of hashes, and of ids. No condition.
-/
import Derived.Test.YtjefgnkekodljaaLists
import Derived.WalkKit
import Derived.ProofKit
import Derived.OpenShut
import Derived.ShutString
import Derived.ChangeOld
import Derived.Below
namespace Go.Proofs.Ytjefgnkekodljaa.hashAdds
open Go.ChangeShapes Go.WideShapes Go.ChangeAt Go.RowKit
open Go.ChangeMaps (open_string shut_string)
set_option linter.unusedVariables false

theorem own : ownKnob Try.prog.godebug = none := by kernel_rfl
theorem laidOut : laidOutB Try.prog = true := by kernel_rfl


set_option maxRecDepth 100000 in
set_option maxHeartbeats 4000000 in
theorem adds (H A : Option Addr) (lh ch lx cx n : Nat) (hs xs : List Int) (w : World) (hlx : lx ≤ cx) (hn : n ≤ lx) (hn' : n ≤ 30) (hlh : lh ≤ maxLen)
    (en : (if (30 : Int) < (lx : Int) then 30 else (lx : Int)) = n)
    (rh : Row w (.slice H lh ch) hs) (rx : Row w (.slice A n cx) xs) (hhs : ∀ j : Nat, In64 (hs[j]?.getD 0)) (hxs : ∀ j : Nat, In64 (xs[j]?.getD 0)) :
    Calls Try.prog 7 #[.slice H lh ch, .slice A lx cx] w fun e w' => e = .returned (.bool true) ∧ Below w.heap.size w w' := by
  unfold maxLen at hlh
  have HH : Hid (∀ j : Nat, In64 (hs[j]?.getD 0)) := hhs
  have HX : Hid (∀ j : Nat, In64 (xs[j]?.getD 0)) := hxs
  have lenh : Hid (lh = hs.length) := rh.len
  have lenx : Hid (n = xs.length) := rx.len
  clear hhs hxs
  have hne : (ofF xs != ofF xs) = false := bne_self_eq_false _
  go_enter Try.func7, Try.ntmps7
  go_wp2_with (first | (go_at_call 8; refine (wakes_any _).mono ?_; rintro e w1 ⟨rfl, hb1⟩) | (go_at_call 15; refine (clone_any A n cx xs _ (rx.below hb1) (by omega)).mono ?_; rintro e w2 ⟨L, c, rfl, rl, hb2⟩; have hb0 := hb1.trans (hb2.mono hb1.size); clear hb1 hb2; have hb := Below.refl w2.heap.size w2) | (go_at_call 14; refine (of_any (rl.below hb)).mono ?_; rintro e w3 ⟨rfl, hb3⟩; replace hb := hb.trans (hb3.mono hb.size); clear hb3) | (go_at_call 16; refine (refOf_any L n c xs _ (rl.below hb) HX.out (by omega)).mono ?_; rintro e w3 ⟨rfl, hb3⟩; replace hb := hb.trans (hb3.mono hb.size); clear hb3) | (go_at_call 17; refine (equal_any L A n c cx xs _ (rl.below hb) (rx.below (hb0.trans (hb.mono hb0.size))) (by omega)).mono ?_; rintro e w3 ⟨rfl, hb3⟩; replace hb := hb.trans (hb3.mono hb.size); clear hb3))
  clear hne
  go_loopw [34] (fun i wr => ∃ k : Nat, k ≤ lh ∧ i = .int .i64 k ∧ Below w2.heap.size w2 wr) (fun i _ => lh - (intOf i).toNat)
  case atStart => exact ⟨0, Nat.zero_le _, rfl, hb⟩
  case round =>
    clear hb
    obtain ⟨k, hk, rfl, hb⟩ := hrel
    obtain ⟨wo, rfl⟩ : ∃ wo : World, wo = wr := ⟨_, rfl⟩
    by_cases hlt : k < lh
    · have hlt' : k < hs.length := by have := lenh.out; omega
      have hz : Hid (In64 (hs[k]?.getD 0)) := HH.out k
      obtain ⟨b, off, rfl, hcell⟩ := (rh.below (hb0.trans (hb.mono hb0.size))).at_ hlt'
      have hc := hcell k hlt'
      clear hcell hlt'
      generalize hs[k]?.getD 0 = z at hc hz
      by_cases h12 : k = 12
      · have h12' : ((k : Int) == 12) = true := by rw [h12]; rfl
        clear h12
        go_wp2
        go_ret
        exact ⟨rfl, hb0.trans (hb.mono hb0.size)⟩
      · have h12' : ((k : Int) == 12) = false := by simpa using (by omega : ¬ (k : Int) = 12)
        clear h12
        go_wp2_with fail
        go_loopw [43] (fun i wi => ∃ q : Nat, q ≤ n ∧ i = .int .i64 q ∧ Below w2.heap.size w2 wi) (fun i _ => n - (intOf i).toNat)
        case atStart => exact ⟨0, Nat.zero_le _, rfl, hb⟩
        case round =>
          clear hb hc
          obtain ⟨q, hq, rfl, hb⟩ := hrel
          by_cases hqn : q < n
          · have hqn' : q < xs.length := by have := lenx.out; omega
            have hy : Hid (In64 (xs[q]?.getD 0)) := HX.out q
            obtain ⟨b2, off2, rfl, hcell⟩ := (rl.below hb).at_ hqn'
            have hc := hcell q hqn'
            clear hcell hqn'
            generalize xs[q]?.getD 0 = y at hc hy
            have hzy : (addF z y != addF z y) = false := bne_self_eq_false _
            by_cases h8 : q < 8
            · go_wp2_with (first | (go_at_call 12; refine (add_any _ _ _).mono ?_; rintro e w4 ⟨rfl, hb4⟩; replace hb := hb.trans (hb4.mono hb.size); clear hb4) | (go_at_call 18; refine (refAdd_any _ _ _ hz.out hy.out).mono ?_; rintro e w4 ⟨rfl, hb4⟩; replace hb := hb.trans (hb4.mono hb.size); clear hb4))
              go_roundw
              case rel => exact ⟨q + 1, by omega, by go_num, hb⟩
              case measure => simp [intOf]; omega
            · go_wp2_with fail
              go_roundw
              case rel => exact ⟨q + 1, by omega, by go_num, hb⟩
              case measure => simp [intOf]; omega
          · obtain rfl : n = q := by omega
            go_wp2_with fail
            go_roundw
            case rel => exact ⟨k + 1, by omega, by go_num, hb⟩
            case measure => simp [intOf]; omega
    · obtain rfl : lh = k := by omega
      go_wp2_with fail
      go_ret
      exact ⟨rfl, hb0.trans (hb.mono hb0.size)⟩

theorem least (l : Nat) : ∃ n : Nat, n ≤ l ∧ n ≤ 30 ∧ (if (30 : Int) < (l : Int) then 30 else (l : Int)) = n := by
  by_cases h : 30 < l
  · exact ⟨30, by omega, by omega, if_pos (by omega)⟩
  · exact ⟨l, by omega, by omega, if_neg (by omega)⟩

/-- The first n of a row, of which no more than n cells are left. -/
theorem cut {w : World} {a : Option Addr} {len cap : Nat} {xs : List Int} (n c : Nat) (h : Row w (.slice a len cap) xs) (hn : n ≤ len) (hc : n ≤ c) : Row w (.slice a n c) (xs.take n) := by
  have hl := h.len
  rcases Nat.eq_zero_or_pos n with h0 | h0
  · subst h0
    exact .inl ⟨by simp, _, _, rfl⟩
  · obtain ⟨b, off, rfl, hcell⟩ := h.at_ (k := 0) (by omega)
    have hl' : (xs.take n).length = n := by simp; omega
    rcases h with ⟨rfl, _⟩ | ⟨_, _, _, _, _, _, hm, _⟩
    · simp at hl; omega
    refine .inr ⟨by omega, b, off, c, by rw [hl'], by omega, by omega, fun j hj => ?_⟩
    rw [hcell j (by omega), List.getElem?_take_of_lt (by omega)]

theorem cut_in {xs : List Int} (n : Nat) (h : ∀ j : Nat, In64 (xs[j]?.getD 0)) (j : Nat) : In64 ((xs.take n)[j]?.getD 0) := by
  rw [List.getElem?_take]
  split
  · exact h j
  · exact ⟨by decide, by decide⟩

theorem lens {w : World} {a : Option Addr} {len cap : Nat} {zs : List Int} (h : IsRow .u64 w a len cap zs) : len ≤ cap ∧ len ≤ maxLen := by
  rcases h with ⟨_, rfl, rfl, _⟩ | ⟨_, _, hl, hm, _⟩
  · exact ⟨Nat.le_refl _, Nat.zero_le _⟩
  · exact ⟨hl, Nat.le_trans hl hm⟩

theorem walk (a0 : Option Addr) (len0 cap0 : Nat) (z0 : List Int) (a1 : Option Addr) (len1 cap1 : Nat) (z1 : List Int) (w : World) (w0 : IsRow .u64 w a0 len0 cap0 z0) (w1 : IsRow .u64 w a1 len1 cap1 z1) :
    Calls Try.prog 7 #[.slice a0 len0 cap0, .slice a1 len1 cap1] w fun e w' => e = .returned (.bool true) ∧ Below w.heap.size w w' := by
  obtain ⟨hs, rh, hh⟩ := row_of w0
  obtain ⟨xs, rx, hx⟩ := row_of w1
  obtain ⟨n, n1, n2, n3⟩ := least len1
  exact adds a0 a1 len0 cap0 len1 cap1 n hs _ w (lens w1).1 n1 n2 (lens w0).2 n3 rh (cut n cap1 rx n1 (Nat.le_trans n1 (lens w1).1)) hh (cut_in n hx)

/-! ### THE ROW's STEP: WRITTEN OUT: LEAVE IT -/
set_option maxRecDepth 100000 in
theorem lifted (os : Os) (started : os.Started) (H : Type) (enc : TypeId × Value → H) :
    ReturnsInHanded {} Try.checked os 7 .any (Rows.hashAddsSpec.pre6 enc Try.prog Try.f7 Rows.hashAddsRow.domain false) (Rows.hashAddsSpec.post enc Try.prog Try.f7 false true false false) := by
  refine returnsInHanded_of_change (C := Try.checked) own started (by kernel_rfl) Try.func7
    (ChangeSpec.witness6 (enc := enc) (C := Try.checked) false ⟨#[], #[.slice none 0 0, .slice none 0 0], []⟩ 8 (by kernel_rfl) (by kernel_rfl) (by kernel_rfl) (by kernel_rfl)) ?_
  intro W base args ds gs before hval0 hW hcnd _
  have hval : ∀ (j : Nat) t v, Try.f7.params[j]? = some t → args[j]? = some v → Value.okWide Try.prog W .any base t v := hval0
  have hW' := hW
  obtain ⟨p, q, hA0, hV, rfl, hfz, hnd⟩ := hW
  have hA : DataW.TrodAll enc Try.prog W 0 (fun _ => true) true Try.f7.params.toList args.toList ds p := hA0
  rw [Try.params7] at hA hval
  obtain ⟨v0, vs0, d0, ds0, p0, q0, hargs, rfl, rfl, h0, r0⟩ := trodAll_cons hA
  obtain ⟨v1, vs1, d1, ds1, p1, q1, rfl, rfl, rfl, h1, r1⟩ := trodAll_cons r0
  obtain ⟨rfl, rfl, rfl⟩ := trodAll_nil r1
  obtain rfl : args = #[v0, v1] := by cases args; simp_all
  obtain ⟨rfl, rfl⟩ := trodVars_none hV
  obtain ⟨a0, len0, cap0, rfl⟩ := okWide_slice Try.underlying22 (hval 0 22 v0 rfl rfl)
  have k0 := h0
  have lt0 : ∀ x ∈ p0, x.block < W.heap.size := by obtain ⟨m, hm⟩ := k0; exact DataW.trod_lt m _ _ _ hm
  obtain ⟨z0, w0⟩ : ∃ zs, IsRow .u64 W a0 len0 cap0 zs := by
    obtain ⟨fuel, hf⟩ := h0
    rcases open_ints Try.underlying22 Try.underlying24 (by kernel_rfl) hf with ⟨hcs, _⟩ | ⟨x, l, c, zs, hcs, _, hl, hm, hz, _, hcell, hwz⟩
    · simp [Value.cells] at hcs
      obtain ⟨rfl, rfl, rfl⟩ := hcs
      exact ⟨[], .inl ⟨rfl, rfl, rfl, rfl⟩⟩
    · simp [Value.cells] at hcs
      obtain ⟨rfl, rfl, rfl⟩ := hcs
      exact ⟨zs, .inr ⟨_, rfl, hl, hm, by simpa using hz, hcell, hwz⟩⟩
  obtain ⟨a1, len1, cap1, rfl⟩ := okWide_slice Try.underlying34 (hval 1 34 v1 rfl rfl)
  have k1 := h1
  have lt1 : ∀ x ∈ p1, x.block < W.heap.size := by obtain ⟨m, hm⟩ := k1; exact DataW.trod_lt m _ _ _ hm
  obtain ⟨z1, w1⟩ : ∃ zs, IsRow .u64 W a1 len1 cap1 zs := by
    obtain ⟨fuel, hf⟩ := h1
    rcases open_ints Try.underlying34 Try.underlying31 (by kernel_rfl) hf with ⟨hcs, _⟩ | ⟨x, l, c, zs, hcs, _, hl, hm, hz, _, hcell, hwz⟩
    · simp [Value.cells] at hcs
      obtain ⟨rfl, rfl, rfl⟩ := hcs
      exact ⟨[], .inl ⟨rfl, rfl, rfl, rfl⟩⟩
    · simp [Value.cells] at hcs
      obtain ⟨rfl, rfl, rfl⟩ := hcs
      exact ⟨zs, .inr ⟨_, rfl, hl, hm, by simpa using hz, hcell, hwz⟩⟩
  clear hA0 hval0
  refine (walk a0 len0 cap0 z0 a1 len1 cap1 z1 W w0 w1).mono fun e W' ⟨he, bel⟩ => ?_
  subst he
  exact ⟨_, rfl, _, _, _, [], _, [], hW', trodAll_mk1 (shut_bool Try.underlying4 _), (trodAll_cons_mk (Below.trod laidOut (by kernel_rfl) (of_decide_eq_true (by kernel_rfl)) k0 bel lt0) (trodAll_cons_mk (Below.trod laidOut (by kernel_rfl) (of_decide_eq_true (by kernel_rfl)) k1 bel lt1) trodAll_mk0)), rfl, bel.frame _, fun h => by cases h⟩

theorem over : Rows.hashAddsRow.holds Try.pinned (OpenSpec.ofChange Rows.hashAddsSpec) :=
  OpenClaim.holds_of_wide 7 Try.f7 rfl rfl rfl rfl rfl rfl rfl ⟨rfl, rfl, rfl, rfl, rfl⟩ rfl rfl rfl rfl rfl (by kernel_rfl) Try.func7 (by kernel_rfl)
    (of_decide_eq_true (by kernel_rfl)) (by unfold Func.isWrapper; first | (rw [if_pos (by decide +kernel)]; kernel_rfl) | (rw [if_neg (by decide +kernel)]; exact ⟨rfl, rfl⟩))
    (fun os started H enc _ => lifted os started H enc)

/-- ████ THE STATEMENT ████ -/
theorem proved : Rows.HashAddsSaid := over
#print axioms proved
end Go.Proofs.Ytjefgnkekodljaa.hashAdds
