/- sphenoidlaw22.DiagStays: a part of its proof: walks of the functions that it comes to, and plain laws (D15). -/
import Derived.Test.YtjmgjkcjnjlpdaaGreatDoorMd
import Derived.Deep.RegionWith
set_option linter.unusedVariables false
set_option linter.unusedSimpArgs false
set_option linter.unusedSectionVars false
/-! ## D15 -/
namespace Go.Proofs.YtjmgjkcjnjlpdaaGreatDoor
open Go.RowKit

set_option maxHeartbeats 1000000 in
theorem mirror1_any (x : Cr) (hs : x.s = 1 ∨ x.s = -1) (w : World) :
    Calls Tryz.prog 27 #[.agg #[.int .i64 x.a, .int .i64 x.b, .int .i64 x.c, .int .i64 x.d, .int .i64 x.s]] w fun e w' => e = .returned (mirF x).val ∧ Fr [] w w' := by
  obtain ⟨a, b, c, d, s⟩ := x
  rcases hs with hs | hs
  · simp only at hs
    subst hs
    go_enter Tryz.func27, Tryz.ntmps27
    go_wp2
    have ht : ∀ W, Calls Tryz.prog 28 #[.agg #[.int .i64 a, .int .i64 b, .int .i64 c, .int .i64 d], .int .i64 (IntKind.i64.wrap 3)] W fun e w' => e = .returned (.agg #[.int .i64 ((Cr.mk a b c d 1).arc (3 % 4)), .int .i64 ((Cr.mk a b c d 1).arc ((3 + 1) % 4)), .int .i64 ((Cr.mk a b c d 1).arc ((3 + 2) % 4)), .int .i64 ((Cr.mk a b c d 1).arc ((3 + 3) % 4))]) ∧ Fr [] W w' := fun W => turned_any ⟨a, b, c, d, 1⟩ 3 (by omega) W
    go_region_with (go_at_call 28; refine (ht _).mono ?_; rintro e w1 ⟨rfl, hf⟩; have c4 := hf.cell (p := ⟨w.heap.size, 4, none⟩) (v := .int .i64 1) (by go_simp) (by simp); have d0 := hf.cell (p := ⟨w.heap.size + 1, 0, none⟩) (v := .int .i64 0) (by go_simp) (by simp); have d1 := hf.cell (p := ⟨w.heap.size + 1, 1, none⟩) (v := .int .i64 0) (by go_simp) (by simp); have d2 := hf.cell (p := ⟨w.heap.size + 1, 2, none⟩) (v := .int .i64 0) (by go_simp) (by simp); have d3 := hf.cell (p := ⟨w.heap.size + 1, 3, none⟩) (v := .int .i64 0) (by go_simp) (by simp); have d4 := hf.cell (p := ⟨w.heap.size + 1, 4, none⟩) (v := .int .i64 0) (by go_simp) (by simp); have df : ∀ i, w1.frozen? ⟨w.heap.size + 1, i, none⟩ = false := fun i => (hf.frozenE (p := ⟨w.heap.size + 1, i, none⟩) (by simp) (by simp)).trans (by go_simp); have hfw : Fr [] w w1 := (((Fr.refl [] w).alloc _).alloc _).drew.trans hf (by simp); have hlt : w.heap.size < w1.heap.size := Nat.lt_of_lt_of_le (by simp; omega) hf.size; have hlt1 : w.heap.size + 1 < w1.heap.size := Nat.lt_of_lt_of_le (by simp) hf.size)
    all_goals
      go_wp2
      refine bodyPost_ret (v := .agg #[_, _, _, _, _]) ?_ rfl ⟨rfl, ?_⟩
      · simp [results, Tryz.results27, go_sem, hlt1, d0, d1, d2, d3, d4, mirF, turnF, Cr.arc, show IntKind.i64.wrap (-1) = -1 from rfl, show IntKind.i64.wrap 1 = 1 from rfl]
      · refine Fr.setCell (Fr.setCell (Fr.setCell (Fr.setCell (Fr.setCell hfw (.inr ?_) _) (.inr ?_) _) (.inr ?_) _) (.inr ?_) _) (.inr ?_) _
        all_goals simp
  · simp only at hs
    subst hs
    go_enter Tryz.func27, Tryz.ntmps27
    go_wp2
    have ht : ∀ W, Calls Tryz.prog 28 #[.agg #[.int .i64 a, .int .i64 b, .int .i64 c, .int .i64 d], .int .i64 (IntKind.i64.wrap 5)] W fun e w' => e = .returned (.agg #[.int .i64 ((Cr.mk a b c d (-1)).arc (5 % 4)), .int .i64 ((Cr.mk a b c d (-1)).arc ((5 + 1) % 4)), .int .i64 ((Cr.mk a b c d (-1)).arc ((5 + 2) % 4)), .int .i64 ((Cr.mk a b c d (-1)).arc ((5 + 3) % 4))]) ∧ Fr [] W w' := fun W => turned_any ⟨a, b, c, d, (-1)⟩ 5 (by omega) W
    go_region_with (go_at_call 28; refine (ht _).mono ?_; rintro e w1 ⟨rfl, hf⟩; have c4 := hf.cell (p := ⟨w.heap.size, 4, none⟩) (v := .int .i64 (-1)) (by go_simp) (by simp); have d0 := hf.cell (p := ⟨w.heap.size + 1, 0, none⟩) (v := .int .i64 0) (by go_simp) (by simp); have d1 := hf.cell (p := ⟨w.heap.size + 1, 1, none⟩) (v := .int .i64 0) (by go_simp) (by simp); have d2 := hf.cell (p := ⟨w.heap.size + 1, 2, none⟩) (v := .int .i64 0) (by go_simp) (by simp); have d3 := hf.cell (p := ⟨w.heap.size + 1, 3, none⟩) (v := .int .i64 0) (by go_simp) (by simp); have d4 := hf.cell (p := ⟨w.heap.size + 1, 4, none⟩) (v := .int .i64 0) (by go_simp) (by simp); have df : ∀ i, w1.frozen? ⟨w.heap.size + 1, i, none⟩ = false := fun i => (hf.frozenE (p := ⟨w.heap.size + 1, i, none⟩) (by simp) (by simp)).trans (by go_simp); have hfw : Fr [] w w1 := (((Fr.refl [] w).alloc _).alloc _).drew.trans hf (by simp); have hlt : w.heap.size < w1.heap.size := Nat.lt_of_lt_of_le (by simp; omega) hf.size; have hlt1 : w.heap.size + 1 < w1.heap.size := Nat.lt_of_lt_of_le (by simp) hf.size)
    all_goals
      go_wp2
      refine bodyPost_ret (v := .agg #[_, _, _, _, _]) ?_ rfl ⟨rfl, ?_⟩
      · simp [results, Tryz.results27, go_sem, hlt1, d0, d1, d2, d3, d4, mirF, turnF, Cr.arc, show IntKind.i64.wrap (-1) = -1 from rfl, show IntKind.i64.wrap 1 = 1 from rfl]
      · refine Fr.setCell (Fr.setCell (Fr.setCell (Fr.setCell (Fr.setCell hfw (.inr ?_) _) (.inr ?_) _) (.inr ?_) _) (.inr ?_) _) (.inr ?_) _
        all_goals simp

theorem reflect1_any (x : Cr) (hs : x.s = 1 ∨ x.s = -1) (w : World) :
    Calls Tryz.prog 29 #[.agg #[.int .i64 x.a, .int .i64 x.b, .int .i64 x.c, .int .i64 x.d, .int .i64 x.s]] w fun e w' => e = .returned (refF x).val ∧ Fr [] w w' := by
  obtain ⟨a, b, c, d, s⟩ := x
  rcases hs with hs | hs
  all_goals
    simp only at hs
    subst hs
    go_enter Tryz.func29, Tryz.ntmps29
    go_wp2
    refine bodyPost_ret (v := .agg #[_, _, _, _, _]) ?_ rfl ⟨rfl, ?_⟩
    · simp [results, Tryz.results29, go_sem, refF]
    · exact ((((Fr.refl _ _).alloc _).alloc _).alloc _)
end Go.Proofs.YtjmgjkcjnjlpdaaGreatDoor
