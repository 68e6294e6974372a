/- sphenoidlaw22.DiagStays: a part of its proof: walks of the functions that it comes to, and plain laws (D41). -/
import Derived.Test.YtjmgjkcjnjlpdaaGreatDoorMm
import Derived.Test.YtjmgjkcjnjlpdaaGreatDoorMa
set_option linter.unusedVariables false
set_option linter.unusedSimpArgs false
set_option linter.unusedSectionVars false
/-! ## D41 -/
namespace Go.Proofs.YtjmgjkcjnjlpdaaGreatDoor
open Go.RowKit

/-- what the pure operations of the copying have given -/
structure PF (b : Nat → Bool) (pa pb : Nat) (A B : Option Addr) (n m capA capB : Nat) (La Lb : Int) (v28 v29 v30 v31 v32 v33 v35 v36 v37 v38 v39 v40 : Value) : Prop where
  x1 : b 1 = true → v28 = .pointer (some ⟨pa, 0, none⟩)
  x2 : b 2 = true → v29 = .slice A n capA
  x4 : b 4 = true → v31 = .pointer (some ⟨pa, 1, none⟩)
  x5 : b 5 = true → v32 = .int .i64 La
  x6 : b 6 = true → ∃ A1 c1, v30 = .slice A1 n c1 ∧ v33 = .agg #[.slice A1 n c1, .int .i64 La]
  y8 : b 8 = true → v35 = .pointer (some ⟨pb, 0, none⟩)
  y9 : b 9 = true → v36 = .slice B m capB
  y11 : b 11 = true → v38 = .pointer (some ⟨pb, 1, none⟩)
  y12 : b 12 = true → v39 = .int .i64 Lb
  y13 : b 13 = true → ∃ A2 c2, v37 = .slice A2 m c2 ∧ v40 = .agg #[.slice A2 m c2, .int .i64 Lb]

theorem ints_one (l : List Int) : ∀ u ∈ ints l, u.oneCell' = true := by
  intro u hu
  obtain ⟨x, _, rfl⟩ := List.mem_map.1 hu
  rfl
theorem crCells_one (l : List Cr) : ∀ u ∈ crCells l, u.oneCell' = true := by
  intro u hu
  obtain ⟨x, _, hx⟩ := List.mem_flatMap.1 hu
  simp [Cr.cells] at hx
  rcases hx with h | h | h | h | h <;> subst h <;> rfl
theorem CP.x0 {z0 z1 : Value} {s0 s1 : Bool} {v x0 x1 x0' : Value} {O : List Nat} {w : World} (h : CP z0 z1 s0 s1 v x0 x1 O w) (hs : s1 = false) : CP z0 z1 s0 s1 v x0' x1 O w := fun a => by
  obtain ⟨p, h1, h2, h3, h4, h5, _⟩ := h a
  exact ⟨p, h1, h2, h3, h4, h5, fun b => by rw [hs] at b; cases b⟩

set_option maxHeartbeats 4000000 in
set_option maxRecDepth 100000 in
theorem diagStays_any (al bl : List Cr) (A B : Option Addr) (capA capB : Nat) (La Lb i j : Int) (order arcs : List Int) (Ao Aa : Option Addr) (co ca : Nat) (w : World)
    (hra : Rd w A (crCells al)) (hrb : Rd w B (crCells bl)) (hro : Rd w Ao (ints order)) (hrc : Rd w Aa (ints arcs)) (hla : al.length ≤ 9223372036854775807) (hlb : bl.length ≤ 9223372036854775807) (hlo : order.length ≤ 17592186044415) (hlc : arcs.length ≤ 17592186044415) (hT : TabAt w) :
    Calls Tryz.prog 3 #[.agg #[.slice A al.length capA, .int .i64 La], .agg #[.slice B bl.length capB, .int .i64 Lb], .int .i64 i, .int .i64 j, .slice Ao order.length co, .slice Aa arcs.length ca] w fun e w' => e = .returned (.bool true) ∧ Fr [] w w' := by
  obtain ⟨W, hW⟩ : ∃ W, W = (w.alloc (.cells #[.slice A al.length capA, .int .i64 La] 24)).alloc (.cells #[.slice B bl.length capB, .int .i64 Lb] 24) := ⟨_, rfl⟩
  have hfW : Fr [] w W := by rw [hW]; exact (Fr.alloc1 _ _).alloc _
  by_cases h16 : 16 < al.length
  · have h16' : ((al.length : Int) > 16) := by omega
    clear h16
    go_enter Tryz.func3, Tryz.ntmps3
    go_wp2
    go_ret
    exact ⟨rfl, by rw [← hW]; exact hfW⟩
  by_cases h16b : 16 < bl.length
  · have h16' : ((bl.length : Int) > 16) := by omega
    clear h16b
    go_enter Tryz.func3, Tryz.ntmps3
    go_wp2
    go_ret
    exact ⟨rfl, by rw [← hW]; exact hfW⟩
  have c0 : W.cell? ⟨w.heap.size, 0, none⟩ = some (.slice A al.length capA) := by rw [hW]; go_simp
  have c1 : W.cell? ⟨w.heap.size, 1, none⟩ = some (.int .i64 La) := by rw [hW]; go_simp
  have d0 : W.cell? ⟨w.heap.size + 1, 0, none⟩ = some (.slice B bl.length capB) := by rw [hW]; go_simp
  have d1 : W.cell? ⟨w.heap.size + 1, 1, none⟩ = some (.int .i64 Lb) := by rw [hW]; go_simp
  have hs : w.heap.size + 2 = W.heap.size := by rw [hW]; simp
  have HS := hid hs
  have hs0 : w.heap.size < W.heap.size := by omega
  have hs1 : w.heap.size + 1 < W.heap.size := by omega
  clear hs
  go_enter Tryz.func3, Tryz.ntmps3
  go_wp2_with fail
  rw [← hW]
  clear hW
  have e16 : decide (16 < (al.length : Int)) = false := by simp; omega
  have e16b : decide (16 < (bl.length : Int)) = false := by simp; omega
  rw [e16, e16b]
  refine wp_region_any (by kernel_rfl) ?_
  refine wpAny_inv (by kernel_rfl) (fun b a w' => ∃ v13 v14 v27 v28 v29 v30 v31 v32 v33 v34 v35 v36 v37 v38 v39 v40 : Value, a = { tmps := #[.agg #[.slice A al.length capA, .int .i64 La], .agg #[.slice B bl.length capB, .int .i64 Lb], .int .i64 i, .int .i64 j, .slice Ao order.length co, .slice Aa arcs.length ca, .pointer (some ⟨w.heap.size, 0, none⟩), .pointer (some ⟨w.heap.size + 1, 0, none⟩), undef, undef, undef, undef, .bool false, v13, v14, undef, undef, .pointer (some ⟨w.heap.size, 0, none⟩), .slice A al.length capA, .int .i64 (al.length : Int), .bool false, .bool false, .pointer (some ⟨w.heap.size + 1, 0, none⟩), .slice B bl.length capB, .int .i64 (bl.length : Int), .bool false, .bool false, v27, v28, v29, v30, v31, v32, v33, v34, v35, v36, v37, v38, v39, v40, undef, undef, undef, undef, undef, undef, undef, undef, undef, undef, undef, undef, undef, undef, undef, undef, undef, undef, undef, undef, undef, undef, undef, undef, undef, undef, undef, undef, undef, undef, undef, undef, undef, undef, undef, undef, undef, undef, undef, undef, undef, undef, undef, undef, undef, undef, undef, undef, undef, undef, undef, undef, undef, undef, undef, undef, undef, undef, undef, undef, undef, undef, undef, undef, undef], defers := [] } ∧ PF b w.heap.size (w.heap.size + 1) A B al.length bl.length capA capB La Lb v28 v29 v30 v31 v32 v33 v35 v36 v37 v38 v39 v40 ∧ Inv4 W (CX W.heap.size 54 5 al.length (crCells al) (b 0) (b 3) v27 v30) (CX W.heap.size 54 5 bl.length (crCells bl) (b 7) (b 10) v34 v37) (CP (.slice none 0 0) (.int .i64 0) (b 14) (b 16) v13 v30 (.int .i64 La)) (CP (.slice none 0 0) (.int .i64 0) (b 15) (b 17) v14 v37 (.int .i64 Lb)) w') ?done ?step _ _ _ _ rfl (unl_rep _) ?start ?closed
  case start => exact ⟨undef, undef, undef, undef, undef, undef, undef, undef, undef, undef, undef, undef, undef, undef, undef, undef, rfl, ⟨(fun h => by cases h), (fun h => by cases h), (fun h => by cases h), (fun h => by cases h), (fun h => by cases h), (fun h => by cases h), (fun h => by cases h), (fun h => by cases h), (fun h => by cases h), (fun h => by cases h)⟩, (Fr.refl [] W).drew, [], [], [], [], ⟨⟨(fun h => by cases h), (fun h => by cases h)⟩, ⟨(fun h => by cases h), (fun h => by cases h)⟩, (fun h => by cases h), (fun h => by cases h)⟩, by simp, (by intro k hk; simp at hk), (by intro k hk; simp at hk), (by intro k hk; simp at hk), (by intro k hk; simp at hk), (by intro k hk; simp at hk), (by intro k hk; simp at hk)⟩
  case closed => exact fun k o' _ hb => absurd hb (by rw [rep_getD]; simp)
  case step =>
    rintro b a w' k o ⟨v13, v14, v27, v28, v29, v30, v31, v32, v33, v34, v35, v36, v37, v38, v39, v40, rfl, hp, hI⟩ ho hbi hdeps hcl
    have hfr := hI.1
    have e0 := hfr.cell c0 (by simp)
    have e1 := hfr.cell c1 (by simp)
    have f0 := hfr.cell d0 (by simp)
    have f1 := hfr.cell d1 (by simp)
    have t0 := Nat.lt_of_lt_of_le hs0 hfr.size
    have t1 := Nat.lt_of_lt_of_le hs1 hfr.size
    match k, ho, hbi with
    | 1, ho, hbi =>
      obtain rfl := Option.some.inj ho
      refine wpOp_step rfl (fun K' hK => ?_)
      go_simp
      exact hK _ _ ⟨v13, v14, v27, _, v29, v30, v31, v32, v33, v34, v35, v36, v37, v38, v39, v40, rfl, { hp with x1 := fun _ => rfl }, hI⟩
    | 2, ho, hbi =>
      obtain rfl := Option.some.inj ho
      have b1 : b 1 = true := hdeps { on := 1, ground := Ground.data } (by simp) (by kernel_rfl)
      have q := hp.x1 b1
      subst q
      refine wpOp_step rfl (fun K' hK => ?_)
      go_simp
      exact hK _ _ ⟨v13, v14, v27, _, _, v30, v31, v32, v33, v34, v35, v36, v37, v38, v39, v40, rfl, { hp with x2 := fun _ => rfl }, hI⟩
    | 4, ho, hbi =>
      obtain rfl := Option.some.inj ho
      refine wpOp_step rfl (fun K' hK => ?_)
      go_simp
      exact hK _ _ ⟨v13, v14, v27, v28, v29, v30, _, v32, v33, v34, v35, v36, v37, v38, v39, v40, rfl, { hp with x4 := fun _ => rfl }, hI⟩
    | 5, ho, hbi =>
      obtain rfl := Option.some.inj ho
      have b4 : b 4 = true := hdeps { on := 4, ground := Ground.data } (by simp) (by kernel_rfl)
      have q := hp.x4 b4
      subst q
      refine wpOp_step rfl (fun K' hK => ?_)
      go_simp
      exact hK _ _ ⟨v13, v14, v27, v28, v29, v30, _, _, v33, v34, v35, v36, v37, v38, v39, v40, rfl, { hp with x5 := fun _ => rfl }, hI⟩
    | 8, ho, hbi =>
      obtain rfl := Option.some.inj ho
      refine wpOp_step rfl (fun K' hK => ?_)
      go_simp
      exact hK _ _ ⟨v13, v14, v27, v28, v29, v30, v31, v32, v33, v34, _, v36, v37, v38, v39, v40, rfl, { hp with y8 := fun _ => rfl }, hI⟩
    | 9, ho, hbi =>
      obtain rfl := Option.some.inj ho
      have b8 : b 8 = true := hdeps { on := 8, ground := Ground.data } (by simp) (by kernel_rfl)
      have q := hp.y8 b8
      subst q
      refine wpOp_step rfl (fun K' hK => ?_)
      go_simp
      exact hK _ _ ⟨v13, v14, v27, v28, v29, v30, v31, v32, v33, v34, _, _, v37, v38, v39, v40, rfl, { hp with y9 := fun _ => rfl }, hI⟩
    | 11, ho, hbi =>
      obtain rfl := Option.some.inj ho
      refine wpOp_step rfl (fun K' hK => ?_)
      go_simp
      exact hK _ _ ⟨v13, v14, v27, v28, v29, v30, v31, v32, v33, v34, v35, v36, v37, _, v39, v40, rfl, { hp with y11 := fun _ => rfl }, hI⟩
    | 12, ho, hbi =>
      obtain rfl := Option.some.inj ho
      have b11 : b 11 = true := hdeps { on := 11, ground := Ground.data } (by simp) (by kernel_rfl)
      have q := hp.y11 b11
      subst q
      refine wpOp_step rfl (fun K' hK => ?_)
      go_simp
      exact hK _ _ ⟨v13, v14, v27, v28, v29, v30, v31, v32, v33, v34, v35, v36, v37, _, _, v40, rfl, { hp with y12 := fun _ => rfl }, hI⟩
    | 0, ho, hbi =>
      obtain rfl := Option.some.inj ho
      have n3 : b 3 = false := by cases h : b 3 with | false => rfl | true => exact absurd (hcl 3 _ rfl h { on := 0, ground := Ground.data } (by simp) (by kernel_rfl)) (by rw [hbi]; simp)
      obtain ⟨O, -, hlt, hclose⟩ := hI.open CX.foot CP.foot CP.foot
      refine wpOp_step rfl (fun K' hK => ?_)
      go_simp
      refine hK _ _ ⟨v13, v14, _, v28, v29, v30, v31, v32, v33, v34, v35, v36, v37, v38, v39, v40, rfl, { hp with }, (hclose _ [w'.heap.size] _ ⟨fun _ _ => ⟨some ⟨w'.heap.size, 0, none⟩, 0, rfl, OwnR.of_row (RowAt.new w' 54 []) hfr.size (by simp) (by simp), rfl⟩, fun h => absurd (show b 3 = true from h) (by rw [n3]; simp)⟩ ((Fr.alloc1 w' _).weaken (by simp)) ⟨fun x hx => .inr (by simp at hx; omega), fun x hx => by simp at hx; simp; omega⟩)⟩
    | 7, ho, hbi =>
      obtain rfl := Option.some.inj ho
      have n10 : b 10 = false := by cases h : b 10 with | false => rfl | true => exact absurd (hcl 10 _ rfl h { on := 7, ground := Ground.data } (by simp) (by kernel_rfl)) (by rw [hbi]; simp)
      obtain ⟨O, -, hlt, hclose⟩ := hI.rot.open CP.foot CP.foot CX.foot
      refine wpOp_step rfl (fun K' hK => ?_)
      go_simp
      refine hK _ _ ⟨v13, v14, v27, v28, v29, v30, v31, v32, v33, _, v35, v36, v37, v38, v39, v40, rfl, { hp with }, (hclose _ [w'.heap.size] _ ⟨fun _ _ => ⟨some ⟨w'.heap.size, 0, none⟩, 0, rfl, OwnR.of_row (RowAt.new w' 54 []) hfr.size (by simp) (by simp), rfl⟩, fun h => absurd (show b 10 = true from h) (by rw [n10]; simp)⟩ ((Fr.alloc1 w' _).weaken (by simp)) ⟨fun x hx => .inr (by simp at hx; omega), fun x hx => by simp at hx; simp; omega⟩).rot.rot.rot⟩
    | 3, ho, hbi =>
      obtain rfl := Option.some.inj ho
      have b0 : b 0 = true := hdeps { on := 0, ground := Ground.data } (by simp) (by kernel_rfl)
      have b2 : b 2 = true := hdeps { on := 2, ground := Ground.data } (by simp) (by kernel_rfl)
      have n6 : b 6 = false := by cases h : b 6 with | false => rfl | true => exact absurd (hcl 6 _ rfl h { on := 3, ground := Ground.data } (by simp) (by kernel_rfl)) (by rw [hbi]; simp)
      have n16 : b 16 = false := by cases h : b 16 with | false => rfl | true => exact absurd (hcl 16 _ rfl h { on := 6, ground := Ground.data } (by simp) (by kernel_rfl)) (by rw [n6]; simp)
      obtain ⟨O, hc, hlt, hclose⟩ := hI.open CX.foot CP.foot CP.foot
      obtain ⟨A0, c0', rfl, hown, rfl⟩ := hc.1 b0 hbi
      have q := hp.x2 b2
      subst q
      obtain ⟨A1, c1', w1, hrun, hown1, hf1, hl1⟩ := run_append_rd (P := Tryz.prog) w' 22 22 W.heap.size 54 5 40 #[.int .i64 0, .int .i64 0, .int .i64 0, .int .i64 0, .int .i64 0] (by kernel_rfl) (by kernel_rfl) rfl (by omega) A0 0 c0' [] hown A al.length capA (crCells al) (flatMap_len Cr.cells 5 Cr.len al) ((hra.fr0 hfW).fr0 hfr) (crCells_one al) (by omega) (by omega) hfr.size
      rw [Nat.zero_add] at hrun hown1
      refine wpOp_append rfl rfl (.tmp 27) (.tmp 29) 22 rfl _ _ _ rfl rfl hrun ?_
      refine ⟨v13, v14, _, v28, _, _, v31, v32, v33, v34, v35, v36, v37, v38, v39, v40, rfl, { hp with x6 := fun h => absurd (show b 6 = true from h) (by rw [n6]; simp) }, ?_⟩
      have hz := (hclose (CX W.heap.size 54 5 al.length (crCells al) (b 0) true (.slice A0 0 c0') (.slice A1 al.length c1')) (ablocks A1) w1 ⟨fun _ h => by simp at h, fun _ => ⟨A1, c1', rfl, hown1, rfl⟩⟩ hf1 ⟨fun x hx => ?_, fun x hx => ?_⟩)
      · obtain ⟨hz1, z0, z1, z2, z3, ⟨y0, y1, y2, y3⟩, z4⟩ := hz; exact ⟨hz1, z0, z1, z2, z3, ⟨y0, y1, y2.x0 n16, y3⟩, z4⟩
      · obtain ⟨a, h1, h2⟩ := mem_ablocks.1 hx; exact (hl1 a h1).elim (fun ⟨a0, h3, h4⟩ => .inl (mem_ablocks.2 ⟨a0, h3, by omega⟩)) (fun h3 => .inr (by omega))
      · obtain ⟨a, h1, h2⟩ := mem_ablocks.1 hx; have := (hown1.addr a h1).2; omega
    | 10, ho, hbi =>
      obtain rfl := Option.some.inj ho
      have b7 : b 7 = true := hdeps { on := 7, ground := Ground.data } (by simp) (by kernel_rfl)
      have b9 : b 9 = true := hdeps { on := 9, ground := Ground.data } (by simp) (by kernel_rfl)
      have n13 : b 13 = false := by cases h : b 13 with | false => rfl | true => exact absurd (hcl 13 _ rfl h { on := 10, ground := Ground.data } (by simp) (by kernel_rfl)) (by rw [hbi]; simp)
      have n17 : b 17 = false := by cases h : b 17 with | false => rfl | true => exact absurd (hcl 17 _ rfl h { on := 13, ground := Ground.data } (by simp) (by kernel_rfl)) (by rw [n13]; simp)
      obtain ⟨O, hc, hlt, hclose⟩ := hI.rot.open CP.foot CP.foot CX.foot
      obtain ⟨A0, c0', rfl, hown, rfl⟩ := hc.1 b7 hbi
      have q := hp.y9 b9
      subst q
      obtain ⟨A1, c1', w1, hrun, hown1, hf1, hl1⟩ := run_append_rd (P := Tryz.prog) w' 22 22 W.heap.size 54 5 40 #[.int .i64 0, .int .i64 0, .int .i64 0, .int .i64 0, .int .i64 0] (by kernel_rfl) (by kernel_rfl) rfl (by omega) A0 0 c0' [] hown B bl.length capB (crCells bl) (flatMap_len Cr.cells 5 Cr.len bl) ((hrb.fr0 hfW).fr0 hfr) (crCells_one bl) (by omega) (by omega) hfr.size
      rw [Nat.zero_add] at hrun hown1
      refine wpOp_append rfl rfl (.tmp 34) (.tmp 36) 22 rfl _ _ _ rfl rfl hrun ?_
      refine ⟨v13, v14, v27, v28, v29, v30, v31, v32, v33, _, v35, _, _, v38, v39, v40, rfl, { hp with y13 := fun h => absurd (show b 13 = true from h) (by rw [n13]; simp) }, ?_⟩
      have hz := (hclose (CX W.heap.size 54 5 bl.length (crCells bl) (b 7) true (.slice A0 0 c0') (.slice A1 bl.length c1')) (ablocks A1) w1 ⟨fun _ h => by simp at h, fun _ => ⟨A1, c1', rfl, hown1, rfl⟩⟩ hf1 ⟨fun x hx => ?_, fun x hx => ?_⟩).rot.rot.rot
      · obtain ⟨hz1, z0, z1, z2, z3, ⟨y0, y1, y2, y3⟩, z4⟩ := hz; exact ⟨hz1, z0, z1, z2, z3, ⟨y0, y1, y2, y3.x0 n17⟩, z4⟩
      · obtain ⟨a, h1, h2⟩ := mem_ablocks.1 hx; exact (hl1 a h1).elim (fun ⟨a0, h3, h4⟩ => .inl (mem_ablocks.2 ⟨a0, h3, by omega⟩)) (fun h3 => .inr (by omega))
      · obtain ⟨a, h1, h2⟩ := mem_ablocks.1 hx; have := (hown1.addr a h1).2; omega
    | 6, ho, hbi =>
      obtain rfl := Option.some.inj ho
      have b3 : b 3 = true := hdeps { on := 3, ground := Ground.data } (by simp) (by kernel_rfl)
      have b5 : b 5 = true := hdeps { on := 5, ground := Ground.data } (by simp) (by kernel_rfl)
      obtain ⟨O, hc, -, -⟩ := hI.open CX.foot CP.foot CP.foot
      obtain ⟨A1, c1', rfl, -, -⟩ := hc.2 b3
      have q := hp.x5 b5
      subst q
      refine wpOp_step rfl (fun K' hK => ?_)
      go_simp
      exact hK _ _ ⟨v13, v14, v27, v28, v29, _, v31, _, _, v34, v35, v36, v37, v38, v39, v40, rfl, { hp with x6 := fun _ => ⟨_, _, rfl, rfl⟩ }, hI⟩
    | 13, ho, hbi =>
      obtain rfl := Option.some.inj ho
      have b10 : b 10 = true := hdeps { on := 10, ground := Ground.data } (by simp) (by kernel_rfl)
      have b12 : b 12 = true := hdeps { on := 12, ground := Ground.data } (by simp) (by kernel_rfl)
      obtain ⟨O, hc, -, -⟩ := hI.rot.open CP.foot CP.foot CX.foot
      obtain ⟨A1, c1', rfl, -, -⟩ := hc.2 b10
      have q := hp.y12 b12
      subst q
      refine wpOp_step rfl (fun K' hK => ?_)
      go_simp
      exact hK _ _ ⟨v13, v14, v27, v28, v29, v30, v31, v32, v33, v34, v35, v36, _, v38, _, _, rfl, { hp with y13 := fun _ => ⟨_, _, rfl, rfl⟩ }, hI⟩
    | 14, ho, hbi =>
      obtain rfl := Option.some.inj ho
      have n16 : b 16 = false := by cases h : b 16 with | false => rfl | true => exact absurd (hcl 16 _ rfl h { on := 14, ground := Ground.data } (by simp) (by kernel_rfl)) (by rw [hbi]; simp)
      obtain ⟨O, -, hlt, hclose⟩ := hI.rot.rot.open CP.foot CX.foot CX.foot
      refine wpOp_step rfl (fun K' hK => ?_)
      go_simp
      refine hK _ _ ⟨_, v14, v27, v28, v29, v30, v31, v32, v33, v34, v35, v36, v37, v38, v39, v40, rfl, { hp with }, (hclose _ [w'.heap.size] _ (fun _ => ⟨w'.heap.size, rfl, rfl, by simp, fun i => by go_simp, fun _ => ⟨by go_simp, by go_simp⟩, fun h => absurd (show b 16 = true from h) (by rw [n16]; simp)⟩) ((Fr.alloc1 w' _).weaken (by simp)) ⟨fun x hx => .inr (by simp at hx; omega), fun x hx => by simp at hx; simp; omega⟩).rot.rot⟩
    | 15, ho, hbi =>
      obtain rfl := Option.some.inj ho
      have n17 : b 17 = false := by cases h : b 17 with | false => rfl | true => exact absurd (hcl 17 _ rfl h { on := 15, ground := Ground.data } (by simp) (by kernel_rfl)) (by rw [hbi]; simp)
      obtain ⟨O, -, hlt, hclose⟩ := hI.rot.rot.rot.open CX.foot CX.foot CP.foot
      refine wpOp_step rfl (fun K' hK => ?_)
      go_simp
      refine hK _ _ ⟨v13, _, v27, v28, v29, v30, v31, v32, v33, v34, v35, v36, v37, v38, v39, v40, rfl, { hp with }, (hclose _ [w'.heap.size] _ (fun _ => ⟨w'.heap.size, rfl, rfl, by simp, fun i => by go_simp, fun _ => ⟨by go_simp, by go_simp⟩, fun h => absurd (show b 17 = true from h) (by rw [n17]; simp)⟩) ((Fr.alloc1 w' _).weaken (by simp)) ⟨fun x hx => .inr (by simp at hx; omega), fun x hx => by simp at hx; simp; omega⟩).rot⟩
    | 16, ho, hbi =>
      obtain rfl := Option.some.inj ho
      have b14 : b 14 = true := hdeps { on := 14, ground := Ground.data } (by simp) (by kernel_rfl)
      have b6 : b 6 = true := hdeps { on := 6, ground := Ground.data } (by simp) (by kernel_rfl)
      obtain ⟨O, hc, hlt, hclose⟩ := hI.rot.rot.open CP.foot CX.foot CX.foot
      obtain ⟨p, rfl, rfl, hpl, hpf, hpz, -⟩ := hc b14
      obtain ⟨z0, z1⟩ := hpz hbi
      obtain ⟨A1, c1', q1, q2⟩ := hp.x6 b6
      subst q1
      subst q2
      refine wpOp_step rfl (fun K' hK => ?_)
      go_simp
      refine hK _ _ ⟨_, v14, v27, v28, v29, _, v31, v32, _, v34, v35, v36, v37, v38, v39, v40, rfl, { hp with }, (hclose _ [p] _ (fun _ => ⟨p, rfl, rfl, by simpa using hpl, fun i => by simpa using hpf i, fun h => by simp at h, fun _ => ⟨by go_simp, by go_simp⟩⟩) (((Fr.refl [p] w').setCell (.inl (by simp)) _).setCell (.inl (by simp)) _) ⟨fun x hx => .inl hx, fun x hx => by simp at hx; simp; omega⟩).rot.rot⟩
    | 17, ho, hbi =>
      obtain rfl := Option.some.inj ho
      have b15 : b 15 = true := hdeps { on := 15, ground := Ground.data } (by simp) (by kernel_rfl)
      have b13 : b 13 = true := hdeps { on := 13, ground := Ground.data } (by simp) (by kernel_rfl)
      obtain ⟨O, hc, hlt, hclose⟩ := hI.rot.rot.rot.open CX.foot CX.foot CP.foot
      obtain ⟨p, rfl, rfl, hpl, hpf, hpz, -⟩ := hc b15
      obtain ⟨z0, z1⟩ := hpz hbi
      obtain ⟨A1, c1', q1, q2⟩ := hp.y13 b13
      subst q1
      subst q2
      refine wpOp_step rfl (fun K' hK => ?_)
      go_simp
      refine hK _ _ ⟨v13, _, v27, v28, v29, v30, v31, v32, v33, v34, v35, v36, _, v38, v39, _, rfl, { hp with }, (hclose _ [p] _ (fun _ => ⟨p, rfl, rfl, by simpa using hpl, fun i => by simpa using hpf i, fun h => by simp at h, fun _ => ⟨by go_simp, by go_simp⟩⟩) (((Fr.refl [p] w').setCell (.inl (by simp)) _).setCell (.inl (by simp)) _) ⟨fun x hx => .inl hx, fun x hx => by simp at hx; simp; omega⟩).rot⟩
    | n + 18, ho, _ => cases ho
  case done =>
    rintro b a w3 ⟨v13, v14, v27, v28, v29, v30, v31, v32, v33, v34, v35, v36, v37, v38, v39, v40, rfl, hp, hI⟩ hall
    obtain ⟨hf3, o0, o1, o2, o3, ⟨h0, h1, h2, h3⟩, hk, a01, a02, a03, a12, a13, a23⟩ := hI
    have ha := fun i (hi : i < 18) => hall i hi
    obtain ⟨A1, c1', rfl, hown1, rfl⟩ := h0.2 (ha 3 (by omega))
    obtain ⟨A2, c2', rfl, hown2, rfl⟩ := h1.2 (ha 10 (by omega))
    obtain ⟨px, rfl, rfl, hpx, -, -, hx⟩ := h2 (ha 14 (by omega))
    obtain ⟨py, rfl, rfl, hpy, -, -, hy⟩ := h3 (ha 15 (by omega))
    obtain ⟨x0, x1⟩ := hx (ha 16 (by omega))
    obtain ⟨y0, y1⟩ := hy (ha 17 (by omega))
    clear hp hall ha h0 h1 h2 h3 hk a01 a02 a03 a12 a13 a23 hx hy
    replace c0 := hf3.cell c0 (by simp)
    replace c1 := hf3.cell c1 (by simp)
    replace d0 := hf3.cell d0 (by simp)
    replace d1 := hf3.cell d1 (by simp)
    replace hs0 := Nat.lt_of_lt_of_le hs0 hf3.size
    replace hs1 := Nat.lt_of_lt_of_le hs1 hf3.size
    have hW3 := hf3.size
    have hfw3 := hfW.then hf3
    have hro3 := hro.fr0 hfw3
    have hrc3 := hrc.fr0 hfw3
    have hra3 := hra.fr0 hfw3
    have hrb3 := hrb.fr0 hfw3
    have hT3 := hT.fr hfw3
    have hrx := hown1.rd
    have hry := hown2.rd
    clear hro hrc hra hrb hT hfW hf3 hown1 hown2 HS
    have hkeep : ∀ V, Fr [] w3 V → Fr [] w V ∧ V.cell? ⟨w.heap.size, 0, none⟩ = some (.slice A al.length capA) ∧ V.cell? ⟨w.heap.size, 1, none⟩ = some (.int .i64 La) ∧ V.cell? ⟨w.heap.size + 1, 0, none⟩ = some (.slice B bl.length capB) ∧ V.cell? ⟨w.heap.size + 1, 1, none⟩ = some (.int .i64 Lb) ∧ w.heap.size < V.heap.size ∧ w.heap.size + 1 < V.heap.size ∧ (Rd V A (crCells al) ∧ Rd V B (crCells bl) ∧ Rd V Ao (ints order) ∧ Rd V Aa (ints arcs) ∧ TabAt V) ∧ (V.cell? ⟨px, 0, none⟩ = some (.slice A1 al.length c1') ∧ V.cell? ⟨px, 1, none⟩ = some (.int .i64 La) ∧ V.cell? ⟨py, 0, none⟩ = some (.slice A2 bl.length c2') ∧ V.cell? ⟨py, 1, none⟩ = some (.int .i64 Lb) ∧ px < V.heap.size ∧ py < V.heap.size ∧ Rd V A1 (crCells al) ∧ Rd V A2 (crCells bl)) :=
      fun V hV => ⟨hfw3.then hV, hV.cell c0 (by simp), hV.cell c1 (by simp), hV.cell d0 (by simp), hV.cell d1 (by simp), Nat.lt_of_lt_of_le hs0 hV.size, Nat.lt_of_lt_of_le hs1 hV.size, ⟨hra3.fr0 hV, hrb3.fr0 hV, hro3.fr0 hV, hrc3.fr0 hV, hT3.fr hV⟩, hV.cell x0 (by simp), hV.cell x1 (by simp), hV.cell y0 (by simp), hV.cell y1 (by simp), Nat.lt_of_lt_of_le hpx hV.size, Nat.lt_of_lt_of_le hpy hV.size, hrx.fr0 hV, hry.fr0 hV⟩
    have HK := hid hkeep
    clear hkeep c0 c1 d0 d1 x0 x1 y0 y1 hs0 hs1 hpx hpy hrx hry hT3 hra3 hrb3 hfw3
    go_wp2_with (first
      | (at_builtin; refine wpList_append_rd _ rfl _ _ 25 rfl w3.heap.size 3 1 8 #[.int .i64 0] (by kernel_rfl) (by kernel_rfl) rfl (by omega) (some ⟨w3.heap.size, 0, none⟩) 0 0 [] rfl (OwnR.of_row (RowAt.new w3 3 []) (Nat.le_refl _) (by simp) (by simp)) Ao order.length co (ints order) rfl (by simp [ints]) (hro3.fr0 (Fr.alloc1 _ _)) (ints_one order) (by omega) (by omega) (by simp) ?_; intro A4 c4 w4 hown4 hfr4 hlies4; have F34 : Fr [] w3 w4 := ((Fr.alloc1 w3 _).weaken (by simp)).trans hfr4 (fun k hk => .inr (by simp [ablocks] at hk; omega)); have hz4 := F34.size)
      | (at_builtin; refine wpList_append_rd _ rfl _ _ 25 rfl w3.heap.size 3 1 8 #[.int .i64 0] (by kernel_rfl) (by kernel_rfl) rfl (by omega) (some ⟨w4.heap.size, 0, none⟩) 0 0 [] rfl (OwnR.of_row (RowAt.new w4 3 []) hz4 (by simp) (by simp)) Aa arcs.length ca (ints arcs) rfl (by simp [ints]) ((hrc3.fr0 F34).fr0 (Fr.alloc1 _ _)) (ints_one arcs) (by omega) (by omega) (by simp; omega) ?_; intro A5 c5 w5 hown5 hfr5 hlies5; have F45 : Fr [] w4 w5 := ((Fr.alloc1 w4 _).weaken (by simp)).trans hfr5 (fun k hk => .inr (by simp [ablocks] at hk; omega)); have F5 := F34.then F45; have r4 : Rd w5 A4 (ints order) := (by have := hown4.rd.fr0 F45; simpa using this); have r5 : Rd w5 A5 (ints arcs) := (by simpa using hown5.rd); clear hown4 hown5 hfr4 hfr5 F34 hlies4 hlies5 F45 hz4 hro3 hrc3; obtain ⟨hfw, c0, c1, d0, d1, hs0, hs1, ⟨ra, rb, ro, rc, T⟩, -⟩ := HK.out w5 F5))
    have R4 := hid r4
    have R5 := hid r5
    clear r4 r5
    refine (q_check al A capA La _ ra).mono ?_
    rintro e w6 ⟨⟨u6, rfl⟩, hf6⟩
    have F6 := F5.then hf6
    have G6 : Fr [] w5 w6 := hf6
    clear hf6 F5 c0 c1 d0 d1 hs0 hs1 ra rb ro rc T hfw
    obtain ⟨hfw, c0, c1, d0, d1, hs0, hs1, ⟨ra, rb, ro, rc, T⟩, -⟩ := HK.out w6 F6
    go_wp2_with fail
    refine (q_text al A capA La _ ra T).mono ?_
    rintro e w7 ⟨⟨u7, rfl⟩, hf7⟩
    have F7 := F6.then hf7
    have G7 : Fr [] w5 w7 := G6.then hf7
    clear hf7 F6 c0 c1 d0 d1 hs0 hs1 ra rb ro rc T hfw
    obtain ⟨hfw, c0, c1, d0, d1, hs0, hs1, ⟨ra, rb, ro, rc, T⟩, -⟩ := HK.out w7 F7
    go_wp2_with fail
    refine (q_comps al A capA La _ ra).mono ?_
    rintro e w8 ⟨⟨u8, rfl⟩, hf8⟩
    have F8 := F7.then hf8
    have G8 : Fr [] w5 w8 := G7.then hf8
    clear hf8 F7 c0 c1 d0 d1 hs0 hs1 ra rb ro rc T hfw
    obtain ⟨hfw, c0, c1, d0, d1, hs0, hs1, ⟨ra, rb, ro, rc, T⟩, -⟩ := HK.out w8 F8
    go_wp2_with fail
    refine (q_regs al A capA La _ ra).mono ?_
    rintro e w9 ⟨⟨u9, rfl⟩, hf9⟩
    have F9 := F8.then hf9
    have G9 : Fr [] w5 w9 := G8.then hf9
    clear hf9 F8 c0 c1 d0 d1 hs0 hs1 ra rb ro rc T hfw
    obtain ⟨hfw, c0, c1, d0, d1, hs0, hs1, ⟨ra, rb, ro, rc, T⟩, -⟩ := HK.out w9 F9
    go_wp2_with fail
    refine (q_writhe al A capA La _ ra).mono ?_
    rintro e w10 ⟨⟨u10, rfl⟩, hf10⟩
    have F10 := F9.then hf10
    have G10 : Fr [] w5 w10 := G9.then hf10
    clear hf10 F9 c0 c1 d0 d1 hs0 hs1 ra rb ro rc T hfw
    obtain ⟨hfw, c0, c1, d0, d1, hs0, hs1, ⟨ra, rb, ro, rc, T⟩, -⟩ := HK.out w10 F10
    go_wp2_with fail
    refine (q_link al A capA La _ ra i j).mono ?_
    rintro e w11 ⟨⟨u11, rfl⟩, hf11⟩
    have F11 := F10.then hf11
    have G11 : Fr [] w5 w11 := G10.then hf11
    clear hf11 F10 c0 c1 d0 d1 hs0 hs1 ra rb ro rc T hfw
    obtain ⟨hfw, c0, c1, d0, d1, hs0, hs1, ⟨ra, rb, ro, rc, T⟩, -⟩ := HK.out w11 F11
    go_wp2_with fail
    refine (q_mirror al A capA La _ ra).mono ?_
    rintro e w12 ⟨⟨u12, rfl⟩, hf12⟩
    have F12 := F11.then hf12
    have G12 : Fr [] w5 w12 := G11.then hf12
    clear hf12 F11 c0 c1 d0 d1 hs0 hs1 ra rb ro rc T hfw
    obtain ⟨hfw, c0, c1, d0, d1, hs0, hs1, ⟨ra, rb, ro, rc, T⟩, -⟩ := HK.out w12 F12
    go_wp2_with fail
    refine (q_reflect al A capA La _ ra).mono ?_
    rintro e w13 ⟨⟨u13, rfl⟩, hf13⟩
    have F13 := F12.then hf13
    have G13 : Fr [] w5 w13 := G12.then hf13
    clear hf13 F12 c0 c1 d0 d1 hs0 hs1 ra rb ro rc T hfw
    obtain ⟨hfw, c0, c1, d0, d1, hs0, hs1, ⟨ra, rb, ro, rc, T⟩, -⟩ := HK.out w13 F13
    go_wp2_with fail
    refine (q_reverse al A capA La _ ra order Ao co ro (by omega)).mono ?_
    rintro e w14 ⟨⟨u14, rfl⟩, hf14⟩
    have F14 := F13.then hf14
    have G14 : Fr [] w5 w14 := G13.then hf14
    clear hf14 F13 c0 c1 d0 d1 hs0 hs1 ra rb ro rc T hfw
    obtain ⟨hfw, c0, c1, d0, d1, hs0, hs1, ⟨ra, rb, ro, rc, T⟩, -⟩ := HK.out w14 F14
    go_wp2_with fail
    refine (q_renumber al A capA La _ ra order arcs Ao Aa co ca ro rc (by omega) (by omega)).mono ?_
    rintro e w15 ⟨⟨u15, rfl⟩, hf15⟩
    have F15 := F14.then hf15
    have G15 : Fr [] w5 w15 := G14.then hf15
    clear hf15 F14 c0 c1 d0 d1 hs0 hs1 ra rb ro rc T hfw
    obtain ⟨hfw, c0, c1, d0, d1, hs0, hs1, ⟨ra, rb, ro, rc, T⟩, -⟩ := HK.out w15 F15
    go_wp2_with fail
    refine (q_union al A capA La _ ra bl B capB Lb rb).mono ?_
    rintro e w16 ⟨⟨u16, rfl⟩, hf16⟩
    have F16 := F15.then hf16
    have G16 : Fr [] w5 w16 := G15.then hf16
    clear hf16 F15 c0 c1 d0 d1 hs0 hs1 ra rb ro rc T hfw
    obtain ⟨hfw, c0, c1, d0, d1, hs0, hs1, ⟨ra, rb, ro, rc, T⟩, -⟩ := HK.out w16 F16
    go_wp2_with fail
    refine (q_sum al A capA La _ ra bl B capB Lb i j rb).mono ?_
    rintro e w17 ⟨⟨u17, rfl⟩, hf17⟩
    have F17 := F16.then hf17
    have G17 : Fr [] w5 w17 := G16.then hf17
    clear hf17 F16 c0 c1 d0 d1 hs0 hs1 ra rb ro rc T hfw
    obtain ⟨hfw, c0, c1, d0, d1, hs0, hs1, ⟨ra, rb, ro, rc, T⟩, -⟩ := HK.out w17 F17
    go_wp2_with fail
    refine (q_canonical al A capA La _ ra).mono ?_
    rintro e w18 ⟨⟨u18, rfl⟩, hf18⟩
    have F18 := F17.then hf18
    have G18 : Fr [] w5 w18 := G17.then hf18
    clear hf18 F17 c0 c1 d0 d1 hs0 hs1 ra rb ro rc T hfw
    obtain ⟨hfw, c0, c1, d0, d1, hs0, hs1, ⟨ra, rb, ro, rc, T⟩, -⟩ := HK.out w18 F18
    go_wp2_with fail
    refine (q_same al A capA La _ ra bl B capB Lb rb (by omega) (by omega)).mono ?_
    rintro e w19 ⟨⟨u19, rfl⟩, hf19⟩
    have F19 := F18.then hf19
    have G19 : Fr [] w5 w19 := G18.then hf19
    clear hf19 F18 c0 c1 d0 d1 hs0 hs1 ra rb ro rc T hfw
    obtain ⟨hfw, c0, c1, d0, d1, hs0, hs1, ⟨ra, rb, ro, rc, T⟩, -⟩ := HK.out w19 F19
    go_wp2_with fail
    refine (sane_any _ T).mono ?_
    rintro e w20 ⟨rfl, hf20⟩
    have F20 := F19.then hf20
    have G20 := G19.then hf20
    clear hf20 F19 c0 c1 d0 d1 hs0 hs1 ra rb ro rc T hfw
    obtain ⟨hfw, c0, c1, d0, d1, hs0, hs1, ⟨ra, rb, ro, rc, T⟩, x0, x1, y0, y1, hpx, hpy, rx, ry⟩ := HK.out w20 F20
    go_wp2_with fail
    refine (rsame_any al A A1 capA c1' La _ ra rx (by omega)).mono ?_
    rintro e w21 ⟨rfl, hf21⟩
    have F21 := F20.then hf21
    have G21 := G20.then hf21
    clear hf21 F20 c0 c1 d0 d1 hs0 hs1 ra rb ro rc T hfw x0 x1 y0 y1 hpx hpy rx ry
    obtain ⟨hfw, c0, c1, d0, d1, hs0, hs1, ⟨ra, rb, ro, rc, T⟩, x0, x1, y0, y1, hpx, hpy, rx, ry⟩ := HK.out w21 F21
    go_wp2_with fail
    refine (rsame_any bl B A2 capB c2' Lb _ rb ry (by omega)).mono ?_
    rintro e w22 ⟨rfl, hf22⟩
    have F22 := F21.then hf22
    have G22 := G21.then hf22
    clear hf22 F21 c0 c1 d0 d1 hs0 hs1 ra rb ro rc T hfw x0 x1 y0 y1 hpx hpy rx ry
    obtain ⟨hfw, -, -, -, -, -, -, ⟨-, -, ro, rc, -⟩, -⟩ := HK.out w22 F22
    go_wp2_with fail
    refine (sameInts_any order Ao A4 co c4 _ ro (R4.out.fr0 G22) (by omega)).mono ?_
    rintro e w23 ⟨rfl, hf23⟩
    have G23 := G22.then hf23
    go_wp2_with fail
    refine (sameInts_any arcs Aa A5 ca c5 _ (rc.fr0 hf23) (R5.out.fr0 G23) (by omega)).mono ?_
    rintro e w24 ⟨rfl, hf24⟩
    go_wp2
    go_ret
    exact ⟨rfl, hfw.then (hf23.then hf24)⟩
end Go.Proofs.YtjmgjkcjnjlpdaaGreatDoor
