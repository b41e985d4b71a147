/-
  'over' ranges over an id's bytes: its contract at each of the two closures that are handed to it; then Add and Back.
-/
import Derived.Test.YtjefgnkekodljaaIter
namespace Go.Proofs.Ytjefgnkekodljaa
open Go.RowKit Go.Shelf

attribute [local go_sem] Oper.semAt_some

/-- A new block of one cell: what it holds; it may be written. -/
theorem cell_new (W : World) (v : Value) (t : TypeId) : (W.alloc (.cells #[v] t)).cell? ⟨W.heap.size, 0, none⟩ = some v ∧ (W.alloc (.cells #[v] t)).frozen? ⟨W.heap.size, 0, none⟩ = false := by simp
theorem cell_alloc {W : World} {a : Addr} {v : Value} (o : Obj) (h : W.cell? a = some v) : (W.alloc o).cell? a = some v := cell_kept h (World.grownBy_alloc W o none) (fun r e => by cases e)
theorem frozen_alloc {W : World} {a : Addr} {v : Value} (o : Obj) (h : W.cell? a = some v) (hf : W.frozen? a = false) : (W.alloc o).frozen? a = false := (frozen_kept h (World.grownBy_alloc W o none) (fun r e => by cases e)).trans hf

set_option maxRecDepth 100000 in
set_option maxHeartbeats 2000000 in
theorem over_up (h id : Int) (w : World) :
    Calls Try.prog 19 #[.int .u64 h, .int .u64 id, .bool true, .func (.func 20) #[] #[]] w fun e w' =>
      e = .returned (.int .u64 ((upto (byt id) 8).foldl stepA h)) ∧ Below w.heap.size w w' := by
  refine (callsIn_wide (n := 4)).1 ?_
  refine callsIn_of_wp_marks Try.func19 rfl trivial ?_ rfl
  simp only [Try.ntmps19, List.size_toArray, List.length_cons, List.length_nil, Nat.reduceAdd, Nat.reduceSub, Array.replicate_succ, Array.replicate_zero, List.push_toArray, List.append_toArray, List.nil_append, List.cons_append]
  gi_wp2_with (refine ⟨trivial, ?_⟩; gi_at_call 24; refine (callsIn_wide.2 (bytes_any _ _ _)).mono ?_; rintro e w' ⟨rfl, rfl⟩)
  have c0 := cell_new w (.int .u64 h) 24
  have c1 := cell_new (w.alloc (.cells #[.int .u64 h] 24)) (.func (.func 20) #[] #[]) 44
  have c2 := cell_new ((w.alloc (.cells #[.int .u64 h] 24)).alloc (.cells #[.func (.func 20) #[] #[]] 44)) (.int .u64 id) 31
  have c3 := cell_new (((w.alloc (.cells #[.int .u64 h] 24)).alloc (.cells #[.func (.func 20) #[] #[]] 44)).alloc (.cells #[.int .u64 id] 31)) (.bool true) 4
  simp only [World.size_alloc] at c1 c2 c3
  have hB0 : Below w.heap.size w ((((w.alloc (.cells #[.int .u64 h] 24)).alloc (.cells #[.func (.func 20) #[] #[]] 44)).alloc (.cells #[.int .u64 id] 31)).alloc (.cells #[.bool true] 4)) :=
    ((((Below.refl _ w).alloc (Nat.le_refl _) _).alloc (by simp) _).alloc (by simp; omega) _).alloc (by simp; omega) _
  have hseq : SeqStopsK Fence.wide 3 Try.prog 26 #[.pointer (some ⟨w.heap.size + 1 + 1 + 1, 0, none⟩), .pointer (some ⟨w.heap.size + 1 + 1, 0, none⟩)] (fun x : Int => #[Value.int .u64 x]) (KpB (w.heap.size + 1 + 1) (w.heap.size + 1 + 1 + 1))
      (fun ys => ys = upto (byt id) 8) (fun _ => True) 8 ((((w.alloc (.cells #[.int .u64 h] 24)).alloc (.cells #[.func (.func 20) #[] #[]] 44)).alloc (.cells #[.int .u64 id] 31)).alloc (.cells #[.bool true] 4)) :=
    fun l J Jx W hW _ _ hY h0 => iter_up Fence.wide 3 trivial rfl (by omega) l (w.heap.size + 1 + 1) (w.heap.size + 1 + 1 + 1) id J Jx hY W
      ((hW.cell (p := ⟨w.heap.size + 1 + 1, 0, none⟩) (by simp)).trans (cell_alloc _ c2.1)) ((hW.cell (p := ⟨w.heap.size + 1 + 1 + 1, 0, none⟩) (by simp)).trans c3.1) h0
  refine wpIn_rangeFunc_ownF rfl (by omega) (gf := 26) (lb := #[.pointer (some ⟨w.heap.size + 1 + 1 + 1, 0, none⟩), .pointer (some ⟨w.heap.size + 1 + 1, 0, none⟩)]) rfl trivial (enters_of Try.func26 (by kernel_rfl) rfl)
    hseq KpB.trans (fun W l o o' hl _ _ _ => KpB.put W l o' (by simp at hl; omega) (by simp at hl; omega)) (Below.refl _ _) (fun _ => rfl)
    (fun pre W => ((W.cell? ⟨w.heap.size, 0, none⟩ = some (.int .u64 (pre.foldl stepA h)) ∧ W.frozen? ⟨w.heap.size, 0, none⟩ = false) ∧ W.cell? ⟨w.heap.size + 1, 0, none⟩ = some (.func (.func 20) #[] #[])) ∧ Below w.heap.size w W)
    (fun _ _ _ => False)
    (OwnFrom.and (Own.from (fun s A B row hs hg hr => ⟨⟨cell_kept hs.1.1 hg hr, (frozen_kept hs.1.1 hg hr).trans hs.1.2⟩, cell_kept hs.2 hg hr⟩) _) (ownFrom_below (Nat.le_refl _) (by simp; omega)))
    (fun _ _ _ _ _ hs _ _ => hs)
    ⟨⟨⟨cell_alloc _ (cell_alloc _ (cell_alloc _ c0.1)), frozen_alloc _ (cell_alloc _ (cell_alloc _ c0.1)) (frozen_alloc _ (cell_alloc _ c0.1) (frozen_alloc _ c0.1 c0.2))⟩, cell_alloc _ (cell_alloc _ c1.1)⟩, hB0⟩
    (fun x => { tmps := #[.int .u64 h, .int .u64 id, .bool true, .func (.func 20) #[] #[], .pointer (some ⟨w.heap.size, 0, none⟩), undef, undef, .pointer (some ⟨w.heap.size + 1, 0, none⟩), .int .u64 0, .int .u64 x, .int .u64 id, .bool true,
        .func (.func 26) #[] #[.pointer (some ⟨w.heap.size + 1 + 1 + 1, 0, none⟩), .pointer (some ⟨w.heap.size + 1 + 1, 0, none⟩)], .int .u64 x, undef, undef, undef, undef, undef], defers := [] }) ?assign ?body ?done ?stop
  case assign =>
    intro l x W K hK
    gi_wp2
    exact hK
  case body =>
    rintro l pre x W ⟨⟨⟨hc, hf⟩, hg⟩, hB⟩ _
    gi_wp2_with (refine ⟨trivial, ?_⟩; gi_at_call 20; refine (CallsIn.inRound l (callsIn_wide.2 (adds_any _ _ _))).mono ?_; rintro e w' ⟨rfl, rfl⟩)
    exact ⟨KeepsOthers.setCell _ _ _, ⟨World.cell?_setCell_other _ _ _ _ (by simp), World.cell?_setCell_other _ _ _ _ (by simp)⟩,
      ⟨⟨by rw [List.foldl_append]; exact World.cell?_setCell_same' _ _ _ (by rw [hc]; rfl), by rw [World.frozen?_setCell]; exact hf⟩, (World.cell?_setCell_other _ _ _ _ (by simp)).trans hg⟩, hB.setCell (p := ⟨w.heap.size, 0, none⟩) (Nat.le_refl _) _⟩
  case done =>
    rintro D ys W hD rfl ⟨⟨⟨hc, _⟩, _⟩, hB⟩ hK
    gi_wp2
    refine ⟨by simp, .inl ⟨_, _, rfl, run_takeDeferred hK, ?_⟩⟩
    exact ⟨_, results_tmp rfl _ _ _, rfl, hB.trans (belowK_b (w := w) (Nat.le_refl _) W D _ _ (by simp at hD; omega) hK rfl rfl)⟩
  case stop =>
    rintro D c pre W _ _ h _
    exact h.elim

set_option maxRecDepth 100000 in
set_option maxHeartbeats 2000000 in
theorem over_down (h id : Int) (w : World) :
    Calls Try.prog 19 #[.int .u64 h, .int .u64 id, .bool false, .func (.func 21) #[] #[]] w fun e w' =>
      e = .returned (.int .u64 ((upto (fun k => byt id (7 - k)) 8).foldl stepB h)) ∧ Below w.heap.size w w' := by
  refine (callsIn_wide (n := 4)).1 ?_
  refine callsIn_of_wp_marks Try.func19 rfl trivial ?_ rfl
  simp only [Try.ntmps19, List.size_toArray, List.length_cons, List.length_nil, Nat.reduceAdd, Nat.reduceSub, Array.replicate_succ, Array.replicate_zero, List.push_toArray, List.append_toArray, List.nil_append, List.cons_append]
  gi_wp2_with (refine ⟨trivial, ?_⟩; gi_at_call 24; refine (callsIn_wide.2 (bytes_any _ _ _)).mono ?_; rintro e w' ⟨rfl, rfl⟩)
  have c0 := cell_new w (.int .u64 h) 24
  have c1 := cell_new (w.alloc (.cells #[.int .u64 h] 24)) (.func (.func 21) #[] #[]) 44
  have c2 := cell_new ((w.alloc (.cells #[.int .u64 h] 24)).alloc (.cells #[.func (.func 21) #[] #[]] 44)) (.int .u64 id) 31
  have c3 := cell_new (((w.alloc (.cells #[.int .u64 h] 24)).alloc (.cells #[.func (.func 21) #[] #[]] 44)).alloc (.cells #[.int .u64 id] 31)) (.bool false) 4
  simp only [World.size_alloc] at c1 c2 c3
  have hB0 : Below w.heap.size w ((((w.alloc (.cells #[.int .u64 h] 24)).alloc (.cells #[.func (.func 21) #[] #[]] 44)).alloc (.cells #[.int .u64 id] 31)).alloc (.cells #[.bool false] 4)) :=
    ((((Below.refl _ w).alloc (Nat.le_refl _) _).alloc (by simp) _).alloc (by simp; omega) _).alloc (by simp; omega) _
  have hseq : SeqStopsK Fence.wide 3 Try.prog 26 #[.pointer (some ⟨w.heap.size + 1 + 1 + 1, 0, none⟩), .pointer (some ⟨w.heap.size + 1 + 1, 0, none⟩)] (fun x : Int => #[Value.int .u64 x]) (KpB (w.heap.size + 1 + 1) (w.heap.size + 1 + 1 + 1))
      (fun ys => ys = upto (fun k => byt id (7 - k)) 8) (fun _ => True) 8 ((((w.alloc (.cells #[.int .u64 h] 24)).alloc (.cells #[.func (.func 21) #[] #[]] 44)).alloc (.cells #[.int .u64 id] 31)).alloc (.cells #[.bool false] 4)) :=
    fun l J Jx W hW _ _ hY h0 => iter_down Fence.wide 3 trivial rfl (by omega) l (w.heap.size + 1 + 1) (w.heap.size + 1 + 1 + 1) id J Jx hY W
      ((hW.cell (p := ⟨w.heap.size + 1 + 1, 0, none⟩) (by simp)).trans (cell_alloc _ c2.1)) ((hW.cell (p := ⟨w.heap.size + 1 + 1 + 1, 0, none⟩) (by simp)).trans c3.1) h0
  refine wpIn_rangeFunc_ownF rfl (by omega) (gf := 26) (lb := #[.pointer (some ⟨w.heap.size + 1 + 1 + 1, 0, none⟩), .pointer (some ⟨w.heap.size + 1 + 1, 0, none⟩)]) rfl trivial (enters_of Try.func26 (by kernel_rfl) rfl)
    hseq KpB.trans (fun W l o o' hl _ _ _ => KpB.put W l o' (by simp at hl; omega) (by simp at hl; omega)) (Below.refl _ _) (fun _ => rfl)
    (fun pre W => ((W.cell? ⟨w.heap.size, 0, none⟩ = some (.int .u64 (pre.foldl stepB h)) ∧ W.frozen? ⟨w.heap.size, 0, none⟩ = false) ∧ W.cell? ⟨w.heap.size + 1, 0, none⟩ = some (.func (.func 21) #[] #[])) ∧ Below w.heap.size w W)
    (fun _ _ _ => False)
    (OwnFrom.and (Own.from (fun s A B row hs hg hr => ⟨⟨cell_kept hs.1.1 hg hr, (frozen_kept hs.1.1 hg hr).trans hs.1.2⟩, cell_kept hs.2 hg hr⟩) _) (ownFrom_below (Nat.le_refl _) (by simp; omega)))
    (fun _ _ _ _ _ hs _ _ => hs)
    ⟨⟨⟨cell_alloc _ (cell_alloc _ (cell_alloc _ c0.1)), frozen_alloc _ (cell_alloc _ (cell_alloc _ c0.1)) (frozen_alloc _ (cell_alloc _ c0.1) (frozen_alloc _ c0.1 c0.2))⟩, cell_alloc _ (cell_alloc _ c1.1)⟩, hB0⟩
    (fun x => { tmps := #[.int .u64 h, .int .u64 id, .bool false, .func (.func 21) #[] #[], .pointer (some ⟨w.heap.size, 0, none⟩), undef, undef, .pointer (some ⟨w.heap.size + 1, 0, none⟩), .int .u64 0, .int .u64 x, .int .u64 id, .bool false,
        .func (.func 26) #[] #[.pointer (some ⟨w.heap.size + 1 + 1 + 1, 0, none⟩), .pointer (some ⟨w.heap.size + 1 + 1, 0, none⟩)], .int .u64 x, undef, undef, undef, undef, undef], defers := [] }) ?assign ?body ?done ?stop
  case assign =>
    intro l x W K hK
    gi_wp2
    exact hK
  case body =>
    rintro l pre x W ⟨⟨⟨hc, hf⟩, hg⟩, hB⟩ _
    gi_wp2_with (refine ⟨trivial, ?_⟩; gi_at_call 21; refine (CallsIn.inRound l (callsIn_wide.2 (backs_any _ _ _))).mono ?_; rintro e w' ⟨rfl, rfl⟩)
    exact ⟨KeepsOthers.setCell _ _ _, ⟨World.cell?_setCell_other _ _ _ _ (by simp), World.cell?_setCell_other _ _ _ _ (by simp)⟩,
      ⟨⟨by rw [List.foldl_append]; exact World.cell?_setCell_same' _ _ _ (by rw [hc]; rfl), by rw [World.frozen?_setCell]; exact hf⟩, (World.cell?_setCell_other _ _ _ _ (by simp)).trans hg⟩, hB.setCell (p := ⟨w.heap.size, 0, none⟩) (Nat.le_refl _) _⟩
  case done =>
    rintro D ys W hD rfl ⟨⟨⟨hc, _⟩, _⟩, hB⟩ hK
    gi_wp2
    refine ⟨by simp, .inl ⟨_, _, rfl, run_takeDeferred hK, ?_⟩⟩
    exact ⟨_, results_tmp rfl _ _ _, rfl, hB.trans (belowK_b (w := w) (Nat.le_refl _) W D _ _ (by simp at hD; omega) hK rfl rfl)⟩
  case stop =>
    rintro D c pre W _ _ h _
    exact h.elim

set_option maxHeartbeats 400000 in
theorem add_any (h id : Int) (w : World) :
    Calls Try.prog 12 #[.int .u64 h, .int .u64 id] w fun e w' => e = .returned (.int .u64 (addF h id)) ∧ Below w.heap.size w w' := by
  go_enter Try.func12, Try.ntmps12
  go_wp2_with (go_at_call 19; refine (over_up _ _ _).mono ?_; rintro e w' ⟨rfl, hb⟩)
  go_ret
  exact ⟨rfl, hb⟩

set_option maxHeartbeats 400000 in
theorem backI_any (h id : Int) (w : World) :
    Calls Try.prog 13 #[.int .u64 h, .int .u64 id] w fun e w' => e = .returned (.int .u64 (backF h id)) ∧ Below w.heap.size w w' := by
  go_enter Try.func13, Try.ntmps13
  go_wp2_with (go_at_call 19; refine (over_down _ _ _).mono ?_; rintro e w' ⟨rfl, hb⟩)
  go_ret
  exact ⟨rfl, hb⟩
end Go.Proofs.Ytjefgnkekodljaa
