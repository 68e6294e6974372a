/- sphenoidlaw22.DiagStays: a part of its proof: walks of the functions that it comes to, and plain laws (D0, D1, D2, D3). -/
import Derived.Test.YtjmgjkcjnjlpdaaGreatDoorMa
import Derived.Test.YtjmgjkcjnjlpdaaGreatDoorProg
set_option linter.unusedVariables false
set_option linter.unusedSimpArgs false
set_option linter.unusedSectionVars false
/-! ## D0 -/
namespace Go.Proofs.YtjmgjkcjnjlpdaaGreatDoor
open Go.RowKit

def eUse (u : Int × Bool) : Value := .agg #[.int .i64 u.1, .bool u.2]
def ePl (u : Int × Int) : Value := .agg #[.int .i64 u.1, .int .i64 u.2]

theorem eqUse (w : World) (a b : Int × Bool) : (Op.equal 111 (eUse a) (eUse b)).run Tryz.prog w = .ok (decide (a = b)) w := by
  unfold eUse Op.equal Op.maxDepth
  go_simp
  obtain ⟨a1, a2⟩ := a
  obtain ⟨b1, b2⟩ := b
  by_cases h1 : a1 = b1 <;> by_cases h2 : a2 = b2 <;> simp [h1, h2]
theorem mapUse : MapTy Tryz.prog 108 111 75 eUse ePl (ePl (0, 0)) where
  und := by kernel_rfl
  check w em key := by unfold eUse; kernel_rfl
  stays w key := by unfold eUse; simp [Instr.keyThatStays, Instr.sameBits]
  zero w := by unfold ePl; kernel_rfl
  find := find_of_struct (fs := Tryz.prog.fieldsOf 111) (by kernel_rfl) eqUse

theorem eqPl (w : World) (a b : Int × Int) : (Op.equal 75 (ePl a) (ePl b)).run Tryz.prog w = .ok (decide (a = b)) w := by
  unfold ePl Op.equal Op.maxDepth
  go_simp
  obtain ⟨a1, a2⟩ := a
  obtain ⟨b1, b2⟩ := b
  by_cases h1 : a1 = b1 <;> by_cases h2 : a2 = b2 <;> simp [h1, h2]
theorem mapPl : MapTy Tryz.prog 99 75 4 ePl Value.bool (.bool false) where
  und := by kernel_rfl
  check w em key := by unfold ePl; kernel_rfl
  stays w key := by unfold ePl; simp [Instr.keyThatStays, Instr.sameBits]
  zero w := by kernel_rfl
  find := find_of_struct (fs := Tryz.prog.fieldsOf 75) (by kernel_rfl) eqPl

/-! ### out -/
def outF (c : Cr) (p : Int) : Bool := p == 2 || p == 2 - c.s

set_option maxHeartbeats 400000 in
theorem out_any (c : Cr) (p : Int) (w : World) (hp0 : 0 ≤ p) (hp : p < 4) (hs : c.s = 1 ∨ c.s = -1) :
    Calls Tryz.prog 51 #[.agg #[.int .i64 c.a, .int .i64 c.b, .int .i64 c.c, .int .i64 c.d, .int .i64 c.s], .int .i64 p] w fun e w' =>
      e = .returned (.bool (outF c p)) ∧ w.alloc (.cells #[.int .i64 c.a, .int .i64 c.b, .int .i64 c.c, .int .i64 c.d, .int .i64 c.s] 54) = w' := by
  have hs0 : -1 ≤ c.s := by omega
  have hs1 : c.s ≤ 1 := by omega
  clear hs
  go_enter Tryz.func51, Tryz.ntmps51
  go_wp2
  all_goals
    go_ret
    refine ⟨?_, rfl⟩
    simp [outF]
  all_goals simp [*]
end Go.Proofs.YtjmgjkcjnjlpdaaGreatDoor

/-! ## D1 -/
namespace Go.Proofs.YtjmgjkcjnjlpdaaGreatDoor
open Go.RowKit

abbrev MU := List ((Int × Bool) × (Int × Int))

/-- The places of a crossing, one after the other: none: the diagram is not sound. -/
def endsP (n i : Nat) (c : Cr) : List Nat → MU → Option MU
  | [], m => some m
  | p :: r, m =>
    if (aget m (c.arc p, outF c p)).isSome = true ∨ c.arc p < 0 ∨ 2 * (n : Int) ≤ c.arc p then none
    else endsP n i c r (aset m (c.arc p, outF c p) (i, p))

def endsC (n : Nat) : List Cr → Nat → MU → Option MU
  | [], _, m => some m
  | c :: r, i, m => if (c.s != 1 && c.s != -1) = true then none else
    (endsP n i c [0, 1, 2, 3] m).bind (endsC n r (i + 1))

/-- where an arc begins, where it ends -/
structure AE where
  (bc bp ec ep : Int)
  deriving DecidableEq, Repr
def AE.cells (x : AE) : List Value := [.int .i64 x.bc, .int .i64 x.bp, .int .i64 x.ec, .int .i64 x.ep]
def aeCells (l : List AE) : List Value := l.flatMap AE.cells
def aeOf (m : MU) (a : Nat) : AE :=
  let b := (aget m ((a : Int), true)).getD (0, 0)
  let e := (aget m ((a : Int), false)).getD (0, 0)
  ⟨b.1, b.2, e.1, e.2⟩

def endsF (cs : List Cr) (L : Int) : Option (List AE) :=
  if (decide (200 < (cs.length : Int)) || decide (L < 0) || decide (200 < L)) = true then none else
  (endsC cs.length cs 0 []).map fun m => (List.range (2 * cs.length)).map (aeOf m)

/-- what ends leaves -/
def EndsPost (w : World) (R : Option (List AE)) (e : Ending) (w' : World) : Prop :=
  Fr [] w w' ∧ match R with
    | none => e = .returned (.tuple #[.slice none 0 0, .bool false])
    | some l => ∃ A, e = .returned (.tuple #[.slice A l.length l.length, .bool true]) ∧ Rd w' A (aeCells l)

theorem arr4 (x0 x1 x2 x3 s : Int) (p : Nat) (hp : p < 4) (w : World) :
    (Instr.index 52 (.agg #[.int .i64 x0, .int .i64 x1, .int .i64 x2, .int .i64 x3]) (.int .i64 (p : Int))).run Tryz.prog w = .ok (.int .i64 ((Cr.mk x0 x1 x2 x3 s).arc p)) w := by
  have h0 : (Instr.index 52 (.agg #[.int .i64 x0, .int .i64 x1, .int .i64 x2, .int .i64 x3]) (.int .i64 0)).run Tryz.prog w = .ok (.int .i64 x0) w := by kernel_rfl
  have h1 : (Instr.index 52 (.agg #[.int .i64 x0, .int .i64 x1, .int .i64 x2, .int .i64 x3]) (.int .i64 1)).run Tryz.prog w = .ok (.int .i64 x1) w := by kernel_rfl
  have h2 : (Instr.index 52 (.agg #[.int .i64 x0, .int .i64 x1, .int .i64 x2, .int .i64 x3]) (.int .i64 2)).run Tryz.prog w = .ok (.int .i64 x2) w := by kernel_rfl
  have h3 : (Instr.index 52 (.agg #[.int .i64 x0, .int .i64 x1, .int .i64 x2, .int .i64 x3]) (.int .i64 3)).run Tryz.prog w = .ok (.int .i64 x3) w := by kernel_rfl
  match p, hp with
  | 0, _ => exact h0
  | 1, _ => exact h1
  | 2, _ => exact h2
  | 3, _ => exact h3
end Go.Proofs.YtjmgjkcjnjlpdaaGreatDoor

/-! ## D2 -/
namespace Go.Proofs.YtjmgjkcjnjlpdaaGreatDoor
open Go.RowKit

theorem ends_no (cs : List Cr) (A : Option Addr) (cap : Nat) (L : Int) (w : World) (h : (decide (200 < (cs.length : Int)) || decide (L < 0) || decide (200 < L)) = true) :
    Calls Tryz.prog 35 #[.agg #[.slice A cs.length cap, .int .i64 L]] w (EndsPost w (endsF cs L)) := by
  have hF : Hid (endsF cs L = none) := by unfold endsF; rw [if_pos h]; rfl
  generalize cs.length = n at *
  have hor : 200 < n ∨ (n ≤ 200 ∧ L < 0) ∨ (n ≤ 200 ∧ 0 ≤ L ∧ 200 < L) := by
    simp only [Bool.or_eq_true, decide_eq_true_eq] at h; omega
  clear h
  rcases hor with h | ⟨h1, h2⟩ | ⟨h1, h2, h3⟩
  all_goals
    go_enter Tryz.func35, Tryz.ntmps35
    go_wp2
    go_ret2
    rw [hF.out]
    exact ⟨(Fr.refl _ _).alloc _, rfl⟩
end Go.Proofs.YtjmgjkcjnjlpdaaGreatDoor

/-! ## D3 -/
namespace Go.Proofs.YtjmgjkcjnjlpdaaGreatDoor
open Go.RowKit

/-- the relation of the walk's two loops: w0 the world ahead of the loops, bm the map's block -/
structure ER (w0 : World) (bm : Nat) (m : MU) (wr : World) : Prop where
  fr : Fr [bm] w0 wr
  map : MapAt wr bm eUse ePl m

set_option maxHeartbeats 1000000 in
set_option maxRecDepth 100000 in
theorem ends_yes (cs : List Cr) (A : Option Addr) (cap : Nat) (L : Int) (w : World) (hr : Rd w A (crCells cs)) (hn : cs.length ≤ 200) (hL0 : 0 ≤ L) (hL : L ≤ 200) :
    Calls Tryz.prog 35 #[.agg #[.slice A cs.length cap, .int .i64 L]] w (EndsPost w (endsF cs L)) := by
  obtain ⟨R, hR⟩ : ∃ R, endsC cs.length cs 0 [] = R := ⟨_, rfl⟩
  have hF : Hid (endsF cs L = R.map fun m => (List.range (2 * cs.length)).map (aeOf m)) := by
    unfold endsF; rw [if_neg (by simp; omega), hR]; rfl
  have hmm := @run_makeMap Tryz.prog
  have HR := hid hR
  clear hR
  go_enter Tryz.func35, Tryz.ntmps35
  go_wp2
  go_loopw [32] (fun i wr => ∃ (k : Nat) (m : MU), k ≤ cs.length ∧ i = .int .i64 k ∧ endsC cs.length (cs.drop k) k m = R ∧ ER ((w.alloc (.cells #[.slice A cs.length cap, .int .i64 L] 24)).alloc (.map #[] 0)) (w.heap.size + 1) m wr) (fun i _ => cs.length - (intOf i).toNat)
  case atStart =>
    refine ⟨0, [], Nat.zero_le _, rfl, HR.out, ⟨Fr.refl _ _, ?_⟩⟩
    have := MapAt.made (w.alloc (.cells #[.slice A cs.length cap, .int .i64 L] 24)) eUse ePl
    rwa [World.size_alloc] at this
  case round =>
    obtain ⟨k, m, hk, rfl, hC, hE⟩ := hrel
    have d0 : wr.cell? ⟨w.heap.size, 0, none⟩ = some (.slice A cs.length cap) := hE.fr.cell (by go_simp) (by simp)
    by_cases hlt : k < cs.length
    · obtain ⟨x, hx⟩ : ∃ x, cs[k]? = some x := ⟨cs[k], List.getElem?_eq_getElem hlt⟩
      have hd : cs.drop k = x :: cs.drop (k + 1) := by
        rw [List.drop_eq_getElem_cons hlt]; congr 1; rw [List.getElem?_eq_getElem hlt] at hx; simpa using hx
      rw [hd] at hC
      have HC := hid hC
      clear hC hd
      have hr' := ((hr.fr0 ((Fr.alloc1 w (.cells #[.slice A cs.length cap, .int .i64 L] 24)).alloc (.map #[] 0))).fr hE.fr (fun hx a ha => by have := hr.block hx a ha; simp; omega))
      obtain ⟨b, off, rfl, hb, c0, c1, c2, c3, c4⟩ := hr'.cr hx
      clear hr'
      cases hs : (x.s != 1 && x.s != -1)
      · simp only [Bool.and_eq_false_iff, bne_eq_false_iff_eq] at hs
        have hs0 : -1 ≤ x.s := by omega
        have hs1 : x.s ≤ 1 := by omega
        have hS := hid hs
        have hC2 : Hid ((endsP cs.length k x [0, 1, 2, 3] m).bind (endsC cs.length (cs.drop (k + 1)) (k + 1)) = R) := by
          have := HC.out
          unfold endsC at this
          rw [if_neg (by simp only [Bool.and_eq_true, bne_iff_ne]; omega)] at this
          exact this
        clear HC
        have hor : ((x.s != 1) = false) ∨ ((x.s != 1) = true ∧ (x.s != -1) = false) := by
          rcases hs with hs | hs
          · exact .inl (by simp [hs])
          · exact .inr ⟨by simp [hs], by simp [hs]⟩
        clear hs
        obtain ⟨wo, hwo⟩ : ∃ wo : World, wo = wr := ⟨_, rfl⟩
        rw [← hwo] at d0 c0 c1 c2 c3 c4 hE ⊢
        clear hwo
        have hE0 : Fr [w.heap.size + 1] wo (wo.alloc (.cells #[.int .i64 x.a, .int .i64 x.b, .int .i64 x.c, .int .i64 x.d, .int .i64 x.s] 54)) := (Fr.refl _ _).alloc _
        rcases hor with e1 | ⟨e1, e2⟩
        all_goals
          go_wp2
          go_loopw [47] (fun p wi => ∃ (j : Nat) (m' : MU), j ≤ 4 ∧ p = .int .i64 j ∧ (endsP cs.length k x (List.range' j (4 - j)) m').bind (endsC cs.length (cs.drop (k + 1)) (k + 1)) = R ∧
              ER (wo.alloc (.cells #[.int .i64 x.a, .int .i64 x.b, .int .i64 x.c, .int .i64 x.d, .int .i64 x.s] 54)) (w.heap.size + 1) m' wi) (fun p _ => 4 - (intOf p).toNat)
          case atStart => exact ⟨0, m, by omega, rfl, hC2.out, ⟨Fr.refl _ _, hE.map.alloc _⟩⟩
          case round =>
            obtain ⟨j, m', hj, rfl, hP, hI⟩ := hrel
            by_cases hj4 : j < 4
            · have hix : ∀ W, (Instr.index 52 (.agg #[.int .i64 x.a, .int .i64 x.b, .int .i64 x.c, .int .i64 x.d]) (.int .i64 (j : Int))).run Tryz.prog W = .ok (.int .i64 (x.arc j)) W := fun W => arr4 x.a x.b x.c x.d x.s j hj4 W
              have hsz : w.heap.size < wr.heap.size := by have h1 := hI.fr.size; have h2 := hE.map.lt; simp at h1; omega
              have hsz1 : w.heap.size < wr.heap.size + 1 := by omega
              have hsz2 : w.heap.size < wr.heap.size + 1 + 1 := by omega
              have hl4 : List.range' j (4 - j) = j :: List.range' (j + 1) (4 - (j + 1)) := by
                rw [show 4 - j = (4 - (j + 1)) + 1 by omega]; rfl
              rw [hl4] at hP
              have HP := hid hP
              clear hP hl4
              have b0 : wr.cell? ⟨wo.heap.size, 0, none⟩ = some (.int .i64 x.a) := hI.fr.cell (by go_simp) (by have := hE.map.lt; simp; omega)
              have b1 : wr.cell? ⟨wo.heap.size, 1, none⟩ = some (.int .i64 x.b) := hI.fr.cell (by go_simp) (by have := hE.map.lt; simp; omega)
              have b2 : wr.cell? ⟨wo.heap.size, 2, none⟩ = some (.int .i64 x.c) := hI.fr.cell (by go_simp) (by have := hE.map.lt; simp; omega)
              have b3 : wr.cell? ⟨wo.heap.size, 3, none⟩ = some (.int .i64 x.d) := hI.fr.cell (by go_simp) (by have := hE.map.lt; simp; omega)
              have b4 : wr.cell? ⟨wo.heap.size, 4, none⟩ = some (.int .i64 x.s) := hI.fr.cell (by go_simp) (by have := hE.map.lt; simp; omega)
              have hfr : Fr [] w wr := ((((Fr.refl [] w).alloc _).alloc _).trans hE.fr (by simp)).trans (hE0.trans hI.fr (by simp)) (by simp)
              have bd : wr.cell? ⟨w.heap.size, 0, none⟩ = some (.slice (some ⟨b, off, none⟩) cs.length cap) := hI.fr.cell (hE0.cell d0 (by simp)) (by simp)
              cases hg : aget m' (x.arc j, outF x j) with
              | some q =>
                have hR0 : R = none := by
                  have := HP.out
                  unfold endsP at this
                  rw [if_pos (.inl (by rw [hg]; rfl))] at this
                  exact this.symm
                clear HP
                go_wp2_with (first
                  | (go_at_call 51; refine (out_any x _ _ (by omega) (by omega) hS.out).mono ?_; rintro e w' ⟨rfl, rfl⟩)
                  | (at_lookup; refine wpList_lookup_at _ rfl _ _ _ mapUse rfl ((hI.map.alloc _).alloc _) (x.arc j, outF x j) rfl rfl ?_; simp only [hg, ePl, Option.map, Option.getD, Option.isSome]))
                go_ret2
                rw [hF.out, hR0]
                refine ⟨?_, rfl⟩
                repeat first | exact hfr | refine Fr.alloc ?_ _
              | none =>
                by_cases hlo : x.arc j < 0 ∨ 2 * (cs.length : Int) ≤ x.arc j
                · have hR0 : R = none := by
                    have := HP.out
                    unfold endsP at this
                    rw [if_pos (.inr hlo)] at this
                    exact this.symm
                  clear HP
                  rcases hlo with hlo | hhi
                  all_goals
                    go_wp2_with (first
                      | (go_at_call 51; refine (out_any x _ _ (by omega) (by omega) hS.out).mono ?_; rintro e w' ⟨rfl, rfl⟩)
                      | (at_lookup; refine wpList_lookup_at _ rfl _ _ _ mapUse rfl ((hI.map.alloc _).alloc _) (x.arc j, outF x j) rfl rfl ?_; simp only [hg, ePl, Option.map, Option.getD, Option.isSome]))
                    go_ret2
                    rw [hF.out, hR0]
                    refine ⟨?_, rfl⟩
                    repeat first | exact hfr | refine Fr.alloc ?_ _
                · have hP' : Hid ((endsP cs.length k x (List.range' (j + 1) (4 - (j + 1))) (aset m' (x.arc j, outF x j) (k, j))).bind (endsC cs.length (cs.drop (k + 1)) (k + 1)) = R) := by
                    have := HP.out
                    unfold endsP at this
                    rw [if_neg (by rw [hg]; simp; omega)] at this
                    exact this
                  clear HP
                  have h1 : 0 ≤ x.arc j := by omega
                  have h2 : x.arc j < 2 * (cs.length : Int) := by omega
                  clear hlo
                  go_wp2_with (first
                    | (go_at_call 51; refine (out_any x _ _ (by omega) (by omega) hS.out).mono ?_; rintro e w' ⟨rfl, rfl⟩)
                    | (at_lookup; refine wpList_lookup_at _ rfl _ _ _ mapUse rfl ((hI.map.alloc _).alloc _) (x.arc j, outF x j) rfl rfl ?_; simp only [hg, ePl, Option.map, Option.getD, Option.isSome])
                    | (at_mapUpdate; refine wpList_update_at _ rfl _ _ _ mapUse rfl (((hI.map.alloc _).alloc _).alloc _) (x.arc j, outF x j) (k, j) rfl rfl rfl ?_; intro w2 hm2 hg2 hs2))
                  go_roundw
                  case rel =>
                    refine ⟨j + 1, _, by omega, by go_num, hP'.out, ⟨Fr.grown ?_ hg2 (by simp), hm2⟩⟩
                    repeat first | exact hI.fr | refine Fr.alloc ?_ _
                  case measure => simp [intOf]; omega
            · go_wp2
              go_roundw
              case rel => 
                obtain rfl : j = 4 := by omega
                exact ⟨k + 1, m', by omega, by go_num, by simpa [endsP] using hP, ⟨(hE.fr.trans (hE0.trans hI.fr (by simp)) (by simp)), hI.map⟩⟩
              case measure => simp [intOf]; omega
      · simp only [Bool.and_eq_true, bne_iff_ne] at hs
        have e1 : (x.s != 1) = true := by simpa using hs.1
        have e2 : (x.s != -1) = true := by simpa using hs.2
        clear hs
        have hR0 : R = none := by have := HC.out; simp only [endsC, e1, e2] at this; simpa using this.symm
        clear HC
        go_wp2
        go_ret2
        rw [hF.out, hR0]
        refine ⟨?_, rfl⟩
        exact ((((Fr.refl [] w).alloc _).alloc _).trans hE.fr (by simp)).alloc _
    · obtain rfl : k = cs.length := by omega
      rw [List.drop_length] at hC
      have hR1 : R = some m := hC.symm
      clear hC
      have HR1 := hid hR1
      clear hR1
      have hmk := fun W => run_make_rows (P := Tryz.prog) AE.cells ⟨0, 0, 0, 0⟩ 59 77 4 32 (by kernel_rfl) (by kernel_rfl) rfl (by omega) (2 * (cs.length : Int)) (2 * cs.length) (by omega) (by omega) (by omega) W
      obtain ⟨wo, hwo⟩ : ∃ wo : World, wo = wr := ⟨_, rfl⟩
      rw [← hwo] at d0 hE ⊢
      clear hwo
      go_wp2
      go_loopw [89] (fun i wr => ∃ (a : Nat), a ≤ 2 * cs.length ∧ i = .int .i64 a ∧ Fr [wo.heap.size] (wo.alloc (.cells ((List.replicate (2 * cs.length) (⟨0, 0, 0, 0⟩ : AE)).flatMap AE.cells).toArray 77)) wr ∧
         RowAt wr wo.heap.size 77 (aeCells ((List.range a).map (aeOf m) ++ List.replicate (2 * cs.length - a) ⟨0, 0, 0, 0⟩))) (fun i _ => 2 * cs.length - (intOf i).toNat)
      case atStart =>
        exact ⟨0, by omega, rfl, Fr.refl _ _, RowAt.new wo _ _⟩
      case round =>
        obtain ⟨a, ha, rfl, hf, hrow⟩ := hrel
        have hM : MapAt wr (w.heap.size + 1) eUse ePl m := hf.map (hE.map.alloc _) (by have := hE.map.lt; simp; omega)
        by_cases hlt2 : a < 2 * cs.length
        · obtain ⟨bc, bp, ec, ep, hae⟩ : ∃ bc bp ec ep, aeOf m a = ⟨bc, bp, ec, ep⟩ := ⟨_, _, _, _, rfl⟩
          have hl1 : (Instr.lookup 108 (.map (some (w.heap.size + 1))) (.agg #[.int .i64 (a : Int), .bool true]) false).run Tryz.prog wr.drew = .ok (.agg #[.int .i64 bc, .int .i64 bp]) wr.drew := by
            have h := (show MapAt wr.drew (w.heap.size + 1) eUse ePl m from hM).run_lookup mapUse ((a : Int), true) false
            unfold aeOf at hae
            simp only [AE.mk.injEq] at hae
            obtain ⟨h1, h2, h3, h4⟩ := hae
            rw [← h1, ← h2]
            rw [show eUse ((a : Int), true) = .agg #[.int .i64 (a : Int), .bool true] from rfl] at h
            rw [h]
            cases aget m ((a : Int), true) <;> rfl
          have hl2 : (Instr.lookup 108 (.map (some (w.heap.size + 1))) (.agg #[.int .i64 (a : Int), .bool false]) false).run Tryz.prog wr.drew = .ok (.agg #[.int .i64 ec, .int .i64 ep]) wr.drew := by
            have h := (show MapAt wr.drew (w.heap.size + 1) eUse ePl m from hM).run_lookup mapUse ((a : Int), false) false
            unfold aeOf at hae
            simp only [AE.mk.injEq] at hae
            obtain ⟨h1, h2, h3, h4⟩ := hae
            rw [← h3, ← h4]
            rw [show eUse ((a : Int), false) = .agg #[.int .i64 (a : Int), .bool false] from rfl] at h
            rw [h]
            cases aget m ((a : Int), false) <;> rfl
          have HAE := hid hae
          clear hae
          have hz : ((List.range a).map (aeOf m) ++ List.replicate (2 * cs.length - a) (⟨0, 0, 0, 0⟩ : AE))[a]? = some ⟨0, 0, 0, 0⟩ := by
            rw [List.getElem?_append_right (by simp), List.length_map, List.length_range, Nat.sub_self, List.getElem?_replicate, if_pos (by omega)]
          have s0 : wr.cell? ⟨wo.heap.size, a * 4, none⟩ = some (.int .i64 0) := by rw [hrow.cell]; exact flatMap_get AE.cells 4 (fun _ => rfl) _ a 0 _ hz (by omega)
          have s1 : wr.cell? ⟨wo.heap.size, a * 4 + 1, none⟩ = some (.int .i64 0) := by rw [hrow.cell]; exact flatMap_get AE.cells 4 (fun _ => rfl) _ a 1 _ hz (by omega)
          have s2 : wr.cell? ⟨wo.heap.size, a * 4 + 2, none⟩ = some (.int .i64 0) := by rw [hrow.cell]; exact flatMap_get AE.cells 4 (fun _ => rfl) _ a 2 _ hz (by omega)
          have s3 : wr.cell? ⟨wo.heap.size, a * 4 + 3, none⟩ = some (.int .i64 0) := by rw [hrow.cell]; exact flatMap_get AE.cells 4 (fun _ => rfl) _ a 3 _ hz (by omega)
          have fz := fun i => hrow.frozen i
          clear hz
          go_wp2
          go_region
          all_goals
            go_wp2
            go_roundw
            case rel =>
              refine ⟨a + 1, by omega, by go_num, (((((hf.setCell (.inl (by simp)) _).setCell (.inl (by simp)) _).setCell (.inl (by simp)) _).setCell (.inl (by simp)) _)).drew, ?_⟩
              have h := (((hrow.set (a * 4) (.int .i64 bc)).set (a * 4 + 1) (.int .i64 bp)).set (a * 4 + 2) (.int .i64 ec)).set (a * 4 + 3) (.int .i64 ep)
              unfold aeCells at h
              rw [set_flatMap4 AE.cells (fun _ => rfl) ⟨bc, bp, ec, ep⟩ _ _ _ _ rfl _ _ (by simp; omega), ← HAE.out, set_fill (aeOf m) _ _ _ hlt2] at h
              exact h
            case measure => simp [intOf]; omega
        · obtain rfl : a = 2 * cs.length := by omega
          go_wp2
          go_ret2
          rw [hF.out, HR1.out]
          have hz : (List.range (2 * cs.length)).map (aeOf m) ++ List.replicate (2 * cs.length - 2 * cs.length) (⟨0, 0, 0, 0⟩ : AE) = (List.range (2 * cs.length)).map (aeOf m) := by simp
          rw [hz] at hrow
          refine ⟨((((((Fr.refl [] w).alloc _).alloc _).trans hE.fr (by simp)).alloc _).trans hf (by have := hE.fr.size; simp at this; simp; omega)), ?_⟩
          refine ⟨_, ?_, hrow.rd⟩
          simp

theorem ends_any (cs : List Cr) (A : Option Addr) (cap : Nat) (L : Int) (w : World) (hr : Rd w A (crCells cs)) :
    Calls Tryz.prog 35 #[.agg #[.slice A cs.length cap, .int .i64 L]] w (EndsPost w (endsF cs L)) := by
  by_cases h : (decide (200 < (cs.length : Int)) || decide (L < 0) || decide (200 < L)) = true
  · exact ends_no cs A cap L w h
  · simp only [Bool.or_eq_true, decide_eq_true_eq] at h
    exact ends_yes cs A cap L w hr (by omega) (by omega) (by omega)
end Go.Proofs.YtjmgjkcjnjlpdaaGreatDoor
