/- sphenoidlaw22.DiagStays: a part of its proof: walks of the functions that it comes to, and plain laws (D31, D32, L5, D33). -/
import Derived.Test.YtjmgjkcjnjlpdaaGreatDoorMi
import Derived.BigQuiet
import Derived.Shelf.SlSortCmp.Whole1
import Derived.Test.YtjmgjkcjnjlpdaaGreatDoorShelf
set_option linter.unusedVariables false
set_option linter.unusedSimpArgs false
set_option linter.unusedSectionVars false
/-! ## D31 -/
namespace Go.Proofs.YtjmgjkcjnjlpdaaGreatDoor
open Go.RowKit

/-- slices.Compare -/
def cmpL : List Int → List Int → Int
  | [], [] => 0
  | [], _ :: _ => -1
  | _ :: _, [] => 1
  | x :: r, y :: s => if Lib.compareInt x y = 0 then cmpL r s else Lib.compareInt x y
def rowL (x : Cr) : List Int := [x.a, x.b, x.c, x.d, x.s]
def cmpRow (x y : Cr) : Int := if x = y then 0 else cmpL (rowL x) (rowL y)
def cmpRows : List Cr → List Cr → Int
  | [], [] => 0
  | [], _ :: _ => -1
  | _ :: _, [] => 1
  | x :: r, y :: s => if cmpRow x y = 0 then cmpRows r s else cmpRow x y
def compF (a b : List Cr) : Int := if a.length = b.length then cmpRows a b else (a.length : Int) - b.length

theorem compareInt_abs (x y : Int) : -1 ≤ Lib.compareInt x y ∧ Lib.compareInt x y ≤ 1 := by
  unfold Lib.compareInt
  split
  · omega
  · split <;> omega
theorem ints_ne {l : List Int} (h : 0 < l.length) : ints l ≠ [] := by
  intro h0; have := congrArg List.length h0; simp only [ints, List.length_map, List.length_nil] at this; omega

theorem eqRow (x y : Cr) (w : World) : Sem.run Tryz.prog (binOp .eql 84 (.agg #[.int .i64 x.a, .int .i64 x.b, .int .i64 x.c, .int .i64 x.d, .int .i64 x.s]) (.agg #[.int .i64 y.a, .int .i64 y.b, .int .i64 y.c, .int .i64 y.d, .int .i64 y.s])) w = .ok (.bool (decide (x = y))) w := by
  obtain ⟨a, b, c, d, s⟩ := x
  obtain ⟨a', b', c', d', s'⟩ := y
  unfold binOp Op.equal Op.maxDepth
  go_simp
  unfold Op.equalIn
  go_simp
  rw [show List.range' 0 5 = [0, 1, 2, 3, 4] from rfl]
  go_simp
  by_cases h1 : a = a' <;> by_cases h2 : b = b' <;> by_cases h3 : c = c' <;> by_cases h4 : d = d' <;> by_cases h5 : s = s' <;> simp [h1, h2, h3, h4, h5]

set_option maxHeartbeats 1000000 in
set_option maxRecDepth 100000 in
theorem compare_any (xs ys : List Int) (A B : Option Addr) (capA capB : Nat) (w : World) (hx : Rd w A (ints xs)) (hy : Rd w B (ints ys)) (hlx : xs.length ≤ 140737488355328) (hly : ys.length ≤ 140737488355328) :
    Calls Tryz.prog 58 #[.slice A xs.length capA, .slice B ys.length capB] w fun e w' => e = .returned (.int .i64 (cmpL xs ys)) ∧ w' = w := by
  have hc0 := Tryz.cmp_Compare_int
  go_enter Tryz.func58, Tryz.ntmps58
  go_wp2
  go_loopw [11] (fun i wr => ∃ (k : Nat), k ≤ xs.length ∧ i = .int .i64 k ∧ wr = w ∧ cmpL xs ys = cmpL (xs.drop k) (ys.drop k) ∧ k ≤ ys.length) (fun i _ => xs.length - (intOf i).toNat)
  case atStart => exact ⟨0, by omega, rfl, rfl, by simp, by omega⟩
  case round =>
    obtain ⟨k, hk, rfl, rfl, hcm, hky⟩ := hrel
    by_cases hlt : k < xs.length
    · obtain ⟨b, off, rfl, hb, hca⟩ := hx (ints_ne (by omega))
      have x0 := hca k (.int .i64 xs[k]) (by simp [ints, hlt])
      rw [List.drop_eq_getElem_cons hlt] at hcm
      generalize xs[k] = x at x0 hcm
      by_cases hly2 : k < ys.length
      · obtain ⟨b', off', rfl, hb', hcb⟩ := hy (ints_ne (by omega))
        have y0 := hcb k (.int .i64 ys[k]) (by simp [ints, hly2])
        rw [List.drop_eq_getElem_cons hly2] at hcm
        generalize ys[k] = y at y0 hcm
        simp only [cmpL] at hcm
        have HCM := hid hcm
        have hab := compareInt_abs x y
        clear hcm hca hcb
        go_wp2_with fail
        refine (hc0 x y _).mono ?_
        rintro e w1 ⟨rfl, rfl⟩
        generalize Lib.compareInt x y = c at HCM hab
        by_cases hc : c = 0
        · subst hc
          have h2 : cmpL xs ys = cmpL (xs.drop (k + 1)) (ys.drop (k + 1)) := by rw [HCM.out, if_pos rfl]
          have H2 := hid h2
          clear h2 HCM
          go_wp2
          go_roundw
          case rel => exact ⟨k + 1, by omega, by simp, by simp, H2.out, by omega⟩
          case measure => simp [intOf]; omega
        · have h2 : cmpL xs ys = c := by rw [HCM.out, if_neg hc]
          have H2 := hid h2
          have hc' : (c != 0) = true := by simpa using hc
          clear h2 HCM hc
          go_wp2
          go_ret
          exact ⟨congrArg (fun z => Ending.returned (.int .i64 z)) H2.out.symm, rfl⟩
      · have hye : ys.drop k = [] := List.drop_of_length_le (by omega)
        rw [hye] at hcm
        simp only [cmpL] at hcm
        have HCM := hid hcm
        clear hcm hca hye
        go_wp2
        go_ret
        exact ⟨congrArg (fun z => Ending.returned (.int .i64 z)) HCM.out.symm, rfl⟩
    · obtain rfl : k = xs.length := by omega
      rw [List.drop_length] at hcm
      by_cases hly2 : xs.length < ys.length
      · rw [List.drop_eq_getElem_cons hly2] at hcm
        simp only [cmpL] at hcm
        have HCM := hid hcm
        clear hcm
        go_wp2
        go_ret
        exact ⟨congrArg (fun z => Ending.returned (.int .i64 z)) HCM.out.symm, rfl⟩
      · have hye : ys.drop xs.length = [] := List.drop_of_length_le (by omega)
        rw [hye] at hcm
        simp only [cmpL] at hcm
        have HCM := hid hcm
        clear hcm hye
        go_wp2
        go_ret
        exact ⟨congrArg (fun z => Ending.returned (.int .i64 z)) HCM.out.symm, rfl⟩

/-- old memory as it lay; no draw taken back -/
def Gd (w w' : World) : Prop := Fr [] w w' ∧ w.drawn ≤ w'.drawn
theorem Gd.refl (w : World) : Gd w w := ⟨Fr.refl _ _, Nat.le_refl _⟩
theorem Gd.then {a b c : World} (h : Gd a b) (k : Gd b c) : Gd a c := ⟨h.1.then k.1, Nat.le_trans h.2 k.2⟩
theorem Gd.alloc {a b : World} (h : Gd a b) (o : Obj) : Gd a (b.alloc o) := ⟨h.1.alloc o, h.2⟩
theorem Gd.drewN {a b : World} (h : Gd a b) (n : Nat) : Gd a (b.drewN n) := ⟨h.1.drewN n, Nat.le_trans h.2 (by simp [World.drewN])⟩
theorem Gd.drew {a b : World} (h : Gd a b) : Gd a b.drew := ⟨h.1.drew, Nat.le_trans h.2 (Nat.le_succ _)⟩
theorem Gd.setCell {a b : World} (h : Gd a b) {p : Addr} (hp : a.heap.size ≤ p.block) (u : Value) : Gd a (b.setCell p u) := ⟨h.1.setCell (.inr hp) u, h.2⟩
theorem Gd.grow {w w' : World} (h : Gd w w') : ∃ q os, w' = Sort.grow (w.drewN q) os := by
  obtain ⟨hf, hd⟩ := h
  refine ⟨w'.drawn - w.drawn, w'.heap.extract w.heap.size w'.heap.size, ?_⟩
  have hh : w'.heap = w.heap ++ w'.heap.extract w.heap.size w'.heap.size := by
    apply Array.ext_getElem?
    intro i
    by_cases hi : i < w.heap.size
    · rw [hf.block i hi (by simp), Array.getElem?_append_left hi]
    · rw [Array.getElem?_append_right (by omega), Array.getElem?_extract]
      by_cases h2 : i < w'.heap.size
      · rw [if_pos (by omega)]; congr 1; omega
      · rw [if_neg (by omega), Array.getElem?_eq_none (by omega)]
  obtain ⟨h1, t1, d1, o1, p1⟩ := w
  obtain ⟨h2, t2, d2, o2, p2⟩ := w'
  have e1 := hf.os
  have e2 := hf.tape
  have e3 := hf.output
  simp only at e1 e2 e3 hh hd
  subst e1; subst e2; subst e3
  simp only [Sort.grow, World.drewN, World.mk.injEq, and_true, true_and]
  exact ⟨hh, by omega⟩

set_option maxHeartbeats 1000000 in
set_option maxRecDepth 100000 in
/-- the closure of compared -/
theorem compared1_any (x y : Cr) (w : World) :
    Calls Tryz.prog 57 #[.agg #[.int .i64 x.a, .int .i64 x.b, .int .i64 x.c, .int .i64 x.d, .int .i64 x.s], .agg #[.int .i64 y.a, .int .i64 y.b, .int .i64 y.c, .int .i64 y.d, .int .i64 y.s]] w fun e w' => e = .returned (.int .i64 (cmpRow x y)) ∧ Gd w w' := by
  have heq := eqRow x y
  obtain ⟨W, hW⟩ : ∃ W, W = (w.alloc (.cells #[.int .i64 x.a, .int .i64 x.b, .int .i64 x.c, .int .i64 x.d, .int .i64 x.s] 84)).alloc (.cells #[.int .i64 y.a, .int .i64 y.b, .int .i64 y.c, .int .i64 y.d, .int .i64 y.s] 84) := ⟨_, rfl⟩
  have hg : Gd w W := by rw [hW]; exact ((Gd.refl _).alloc _).alloc _
  have hx : RowAt W w.heap.size 84 (ints (rowL x)) := by rw [hW]; exact (RowAt.new w 84 (ints (rowL x))).alloc _
  have hy : RowAt W (w.heap.size + 1) 84 (ints (rowL y)) := by
    rw [hW]
    have := RowAt.new (w.alloc (.cells #[.int .i64 x.a, .int .i64 x.b, .int .i64 x.c, .int .i64 x.d, .int .i64 x.s] 84)) 84 (ints (rowL y))
    rwa [World.size_alloc] at this
  by_cases hxy : x = y
  · have hd : decide (x = y) = true := by simp [hxy]
    have hc : cmpRow x y = 0 := by unfold cmpRow; rw [if_pos hxy]
    rw [hd] at heq
    have HC := hid hc
    clear hxy hd hc hx hy
    go_enter Tryz.func57, Tryz.ntmps57
    go_wp2
    go_ret
    rw [← hW]
    exact ⟨congrArg (fun z => Ending.returned (.int .i64 z)) HC.out.symm, hg⟩
  · have hd : decide (x = y) = false := by simp [hxy]
    have hc : cmpRow x y = cmpL (rowL x) (rowL y) := by unfold cmpRow; rw [if_neg hxy]
    rw [hd] at heq
    have HC := hid hc
    clear hxy hd hc
    go_enter Tryz.func57, Tryz.ntmps57
    go_wp2_with fail
    rw [← hW]
    have h0 : w.heap.size < W.heap.size := hx.lt
    have h1 : w.heap.size + 1 < W.heap.size := hy.lt
    have HX := hid hx
    have HY := hid hy
    clear hW hx hy
    go_quiet (first | (go_at_call 58; refine Calls.quiet_of_same (compare_any (rowL x) (rowL y) _ _ 5 5 _ (HX.out.rd.fr0 ((Fr.refl _ _).drewN _)) (HY.out.rd.fr0 ((Fr.refl _ _).drewN _)) (by simp [rowL]) (by simp [rowL]))))
    go_wp2
    go_ret
    exact ⟨congrArg (fun z => Ending.returned (.int .i64 z)) HC.out.symm, hg.drewN _⟩
end Go.Proofs.YtjmgjkcjnjlpdaaGreatDoor

/-! ## D32 -/
namespace Go.Proofs.YtjmgjkcjnjlpdaaGreatDoor
open Go.RowKit

theorem cmpL_abs : ∀ (xs ys : List Int), -1 ≤ cmpL xs ys ∧ cmpL xs ys ≤ 1
  | [], [] => by simp [cmpL]
  | [], _ :: _ => by simp [cmpL]
  | _ :: _, [] => by simp [cmpL]
  | x :: r, y :: s => by
    have := compareInt_abs x y
    have := cmpL_abs r s
    unfold cmpL
    split <;> omega
theorem cmpRow_abs (x y : Cr) : -1 ≤ cmpRow x y ∧ cmpRow x y ≤ 1 := by
  have := cmpL_abs (rowL x) (rowL y)
  unfold cmpRow
  split <;> omega

set_option maxHeartbeats 1000000 in
set_option maxRecDepth 100000 in
theorem compareFunc_any (xs ys : List Cr) (A B : Option Addr) (capA capB : Nat) (w : World) (hx : Rd w A (crCells xs)) (hy : Rd w B (crCells ys)) (hlx : xs.length ≤ 140737488355328) (hly : ys.length ≤ 140737488355328) :
    Calls Tryz.prog 56 #[.slice A xs.length capA, .slice B ys.length capB, .func (.func 57) #[] #[]] w fun e w' => e = .returned (.int .i64 (cmpRows xs ys)) ∧ Gd w w' := by
  have eg := enters_of Tryz.func57 (by kernel_rfl) rfl
  go_enter Tryz.func56, Tryz.ntmps56
  go_wp2
  go_loopw [13] (fun i wr => ∃ (k : Nat), k ≤ xs.length ∧ i = .int .i64 k ∧ Gd w wr ∧ cmpRows xs ys = cmpRows (xs.drop k) (ys.drop k) ∧ k ≤ ys.length) (fun i _ => xs.length - (intOf i).toNat)
  case atStart => exact ⟨0, by omega, rfl, Gd.refl _, by simp, by omega⟩
  case round =>
    obtain ⟨k, hk, rfl, hg, hcm, hky⟩ := hrel
    by_cases hlt : k < xs.length
    · obtain ⟨b, off, rfl, hb, x0, x1, x2, x3, x4⟩ := (hx.fr0 hg.1).cr (List.getElem?_eq_getElem hlt)
      rw [List.drop_eq_getElem_cons hlt] at hcm
      generalize xs[k] = x at x0 x1 x2 x3 x4 hcm
      by_cases hly2 : k < ys.length
      · obtain ⟨b', off', rfl, hb', y0, y1, y2, y3, y4⟩ := (hy.fr0 hg.1).cr (List.getElem?_eq_getElem hly2)
        rw [List.drop_eq_getElem_cons hly2] at hcm
        generalize ys[k] = y at y0 y1 y2 y3 y4 hcm
        simp only [cmpRows] at hcm
        have HCM := hid hcm
        have hab := cmpRow_abs x y
        have hb1 : b' < wr.heap.size + 1 := by omega
        clear hcm
        go_wp2_with fail
        refine (compared1_any x y _).mono ?_
        rintro e w1 ⟨rfl, hg1⟩
        generalize cmpRow x y = c at HCM hab
        have hgw : Gd w w1 := ((hg.alloc _).alloc _).then hg1
        by_cases hc : c = 0
        · subst hc
          have h2 : cmpRows xs ys = cmpRows (xs.drop (k + 1)) (ys.drop (k + 1)) := by rw [HCM.out, if_pos rfl]
          have H2 := hid h2
          clear h2 HCM
          go_wp2
          go_roundw
          case rel => exact ⟨k + 1, by omega, by simp, hgw, H2.out, by omega⟩
          case measure => simp [intOf]; omega
        · have h2 : cmpRows xs ys = c := by rw [HCM.out, if_neg hc]
          have H2 := hid h2
          have hc' : (c != 0) = true := by simpa using hc
          clear h2 HCM hc
          go_wp2
          go_ret
          exact ⟨congrArg (fun z => Ending.returned (.int .i64 z)) H2.out.symm, hgw⟩
      · have hye : ys.drop k = [] := List.drop_of_length_le (by omega)
        rw [hye] at hcm
        simp only [cmpRows] at hcm
        have HCM := hid hcm
        clear hcm hye
        go_wp2
        go_ret
        exact ⟨congrArg (fun z => Ending.returned (.int .i64 z)) HCM.out.symm, hg.alloc _⟩
    · obtain rfl : k = xs.length := by omega
      rw [List.drop_length] at hcm
      by_cases hly2 : xs.length < ys.length
      · rw [List.drop_eq_getElem_cons hly2] at hcm
        simp only [cmpRows] at hcm
        have HCM := hid hcm
        clear hcm
        go_wp2
        go_ret
        exact ⟨congrArg (fun z => Ending.returned (.int .i64 z)) HCM.out.symm, hg⟩
      · have hye : ys.drop xs.length = [] := List.drop_of_length_le (by omega)
        rw [hye] at hcm
        simp only [cmpRows] at hcm
        have HCM := hid hcm
        clear hcm hye
        go_wp2
        go_ret
        exact ⟨congrArg (fun z => Ending.returned (.int .i64 z)) HCM.out.symm, hg⟩

set_option maxHeartbeats 1000000 in
theorem compared_any (xs ys : List Cr) (A B : Option Addr) (capA capB : Nat) (w : World) (hx : Rd w A (crCells xs)) (hy : Rd w B (crCells ys)) (hlx : xs.length ≤ 140737488355328) (hly : ys.length ≤ 140737488355328) :
    Calls Tryz.prog 38 #[.slice A xs.length capA, .slice B ys.length capB] w fun e w' => e = .returned (.int .i64 (compF xs ys)) ∧ Gd w w' := by
  by_cases hlen : xs.length = ys.length
  · have hq : ((xs.length : Int) != (ys.length : Int)) = false := by simp; omega
    have hc : compF xs ys = cmpRows xs ys := by unfold compF; rw [if_pos hlen]
    have HC := hid hc
    clear hlen hc
    go_enter Tryz.func38, Tryz.ntmps38
    go_wp2_with fail
    refine (compareFunc_any xs ys A B capA capB w hx hy hlx hly).mono ?_
    rintro e w1 ⟨rfl, hg⟩
    go_wp2
    go_ret
    exact ⟨congrArg (fun z => Ending.returned (.int .i64 z)) HC.out.symm, hg⟩
  · have hq : ((xs.length : Int) != (ys.length : Int)) = true := by simp; omega
    have hc : compF xs ys = xs.length - ys.length := by unfold compF; rw [if_neg hlen]
    have HC := hid hc
    clear hlen hc
    go_enter Tryz.func38, Tryz.ntmps38
    go_wp2
    go_ret
    exact ⟨congrArg (fun z => Ending.returned (.int .i64 z)) HC.out.symm, Gd.refl _⟩
end Go.Proofs.YtjmgjkcjnjlpdaaGreatDoor

/-! ## L5 -/
namespace Go.Proofs.YtjmgjkcjnjlpdaaGreatDoor
open Go.RowKit
/-! ### the comparison of codes is a linear order -/
structure LinCmp {α : Type} (c : α → α → Int) : Prop where
  eq0 : ∀ x y, c x y = 0 → x = y
  refl : ∀ x, c x x = 0
  anti : ∀ x y, c x y < 0 → 0 < c y x
  anti' : ∀ x y, 0 < c x y → c y x < 0
  trans : ∀ x y z, c x y < 0 → c y z < 0 → c x z < 0

theorem LinCmp.swo {α : Type} {c : α → α → Int} (h : LinCmp c) : Sort.SWO (ltOf c) where
  irrefl x := by unfold ltOf; rw [h.refl]; rfl
  trans x y z h1 h2 := by
    simp only [ltOf, decide_eq_true_eq] at *
    exact h.trans x y z h1 h2
  ntrans x y z h1 h2 := by
    simp only [ltOf, decide_eq_false_iff_not] at *
    intro h3
    rcases Int.lt_trichotomy (c x y) 0 with h4 | h4 | h4
    · exact h1 h4
    · rw [← h.eq0 x y h4] at h2; exact h2 h3
    · exact h2 (h.trans y x z (h.anti' x y h4) h3)

def lexC {α : Type} (c : α → α → Int) : List α → List α → Int
  | [], [] => 0
  | [], _ :: _ => -1
  | _ :: _, [] => 1
  | x :: r, y :: s => if c x y = 0 then lexC c r s else c x y

theorem LinCmp.lex {α : Type} {c : α → α → Int} (h : LinCmp c) : LinCmp (lexC c) where
  eq0 x := by
    induction x with
    | nil => intro y; cases y <;> simp [lexC]
    | cons a r ih =>
      intro y
      cases y with
      | nil => simp [lexC]
      | cons b s =>
        simp only [lexC]
        split
        · rename_i h1; intro h2; rw [h.eq0 _ _ h1, ih s h2]
        · rename_i h1; intro h2; exact absurd h2 h1
  refl x := by
    induction x with
    | nil => rfl
    | cons a r ih => simp only [lexC, h.refl, if_true]; exact ih
  anti x := by
    induction x with
    | nil => intro y; cases y <;> simp [lexC]
    | cons a r ih =>
      intro y
      cases y with
      | nil => simp [lexC]
      | cons b s =>
        simp only [lexC]
        by_cases h1 : c a b = 0
        · have h2 : c b a = 0 := by rw [h.eq0 _ _ h1]; exact h.refl _
          rw [if_pos h1, if_pos h2]; exact ih s
        · have h2 : c b a ≠ 0 := fun e => h1 (by rw [h.eq0 _ _ e]; exact h.refl _)
          rw [if_neg h1, if_neg h2]; exact h.anti a b
  anti' x := by
    induction x with
    | nil => intro y; cases y <;> simp [lexC]
    | cons a r ih =>
      intro y
      cases y with
      | nil => simp [lexC]
      | cons b s =>
        simp only [lexC]
        by_cases h1 : c a b = 0
        · have h2 : c b a = 0 := by rw [h.eq0 _ _ h1]; exact h.refl _
          rw [if_pos h1, if_pos h2]; exact ih s
        · have h2 : c b a ≠ 0 := fun e => h1 (by rw [h.eq0 _ _ e]; exact h.refl _)
          rw [if_neg h1, if_neg h2]; exact h.anti' a b
  trans x := by
    induction x with
    | nil =>
      intro y z
      cases y with
      | nil => simp [lexC]
      | cons b s => cases z <;> simp [lexC]
    | cons a r ih =>
      intro y z
      cases y with
      | nil => simp [lexC]
      | cons b s =>
        cases z with
        | nil => simp [lexC]
        | cons d t =>
          simp only [lexC]
          by_cases h1 : c a b = 0
          · have e := h.eq0 _ _ h1; subst e
            rw [if_pos h1]
            by_cases h2 : c a d = 0
            · rw [if_pos h2, if_pos h2]; exact ih s t
            · rw [if_neg h2, if_neg h2]; exact fun _ h => h
          · rw [if_neg h1]
            by_cases h2 : c b d = 0
            · have e := h.eq0 _ _ h2; subst e
              rw [if_pos h2, if_neg h1]
              exact fun h _ => h
            · rw [if_neg h2]
              intro h3 h4
              have h5 := h.trans a b d h3 h4
              rw [if_neg (by omega)]
              exact h5

theorem lin_int : LinCmp Lib.compareInt where
  eq0 x y := by unfold Lib.compareInt; split <;> (try split) <;> omega
  refl x := by simp [Lib.compareInt]
  anti x y := by unfold Lib.compareInt; split <;> split <;> (try split) <;> (try split) <;> omega
  anti' x y := by unfold Lib.compareInt; split <;> split <;> (try split) <;> (try split) <;> omega
  trans x y z := by unfold Lib.compareInt; split <;> split <;> (try split) <;> (try split) <;> (try split) <;> (try split) <;> omega

theorem cmpL_lex : ∀ (x y : List Int), cmpL x y = lexC Lib.compareInt x y
  | [], [] => rfl
  | [], _ :: _ => rfl
  | _ :: _, [] => rfl
  | a :: r, b :: s => by simp only [cmpL, lexC]; rw [cmpL_lex r s]
theorem lin_L : LinCmp cmpL := by
  have : cmpL = lexC Lib.compareInt := by funext x y; exact cmpL_lex x y
  rw [this]; exact lin_int.lex
theorem cmpRow_eq (x y : Cr) : cmpRow x y = cmpL (rowL x) (rowL y) := by
  unfold cmpRow
  split
  · rename_i h; subst h; exact (lin_L.refl _).symm
  · rfl
theorem rowL_inj {x y : Cr} (h : rowL x = rowL y) : x = y := by
  obtain ⟨_, _, _, _, _⟩ := x
  obtain ⟨_, _, _, _, _⟩ := y
  simp only [rowL, List.cons.injEq, and_true] at h
  obtain ⟨rfl, rfl, rfl, rfl, rfl⟩ := h
  rfl
theorem lin_row : LinCmp cmpRow where
  eq0 x y h := rowL_inj (lin_L.eq0 _ _ (by rw [← cmpRow_eq]; exact h))
  refl x := by rw [cmpRow_eq]; exact lin_L.refl _
  anti x y := by rw [cmpRow_eq, cmpRow_eq]; exact lin_L.anti _ _
  anti' x y := by rw [cmpRow_eq, cmpRow_eq]; exact lin_L.anti' _ _
  trans x y z := by rw [cmpRow_eq, cmpRow_eq, cmpRow_eq]; exact lin_L.trans _ _ _
theorem cmpRows_lex : ∀ (x y : List Cr), cmpRows x y = lexC cmpRow x y
  | [], [] => rfl
  | [], _ :: _ => rfl
  | _ :: _, [] => rfl
  | a :: r, b :: s => by simp only [cmpRows, lexC]; rw [cmpRows_lex r s]
theorem lin_rows : LinCmp cmpRows := by
  have : cmpRows = lexC cmpRow := by funext x y; exact cmpRows_lex x y
  rw [this]; exact lin_row.lex
theorem lin_comp : LinCmp compF where
  eq0 x y h := by
    unfold compF at h
    split at h
    · exact lin_rows.eq0 _ _ h
    · omega
  refl x := by unfold compF; rw [if_pos rfl]; exact lin_rows.refl _
  anti x y h := by
    unfold compF at h ⊢
    split at h
    · rename_i e; rw [if_pos e.symm]; exact lin_rows.anti _ _ h
    · rw [if_neg (by omega)]; omega
  anti' x y h := by
    unfold compF at h ⊢
    split at h
    · rename_i e; rw [if_pos e.symm]; exact lin_rows.anti' _ _ h
    · rw [if_neg (by omega)]; omega
  trans x y z h1 h2 := by
    unfold compF at h1 h2 ⊢
    split at h1
    · split at h2
      · rw [if_pos (by omega)]; exact lin_rows.trans _ _ _ h1 h2
      · rw [if_neg (by omega)]; omega
    · split at h2
      · rw [if_neg (by omega)]; omega
      · rw [if_neg (by omega)]; omega
end Go.Proofs.YtjmgjkcjnjlpdaaGreatDoor

/-! ## D33 -/
namespace Go.Proofs.YtjmgjkcjnjlpdaaGreatDoor
open Go.RowKit

/-- a code in memory: where, its capacity, its rows -/
abbrev CodeV := Option Addr × Nat × List Cr
def encCode (t : CodeV) : Value := .slice t.1 t.2.2.length t.2.1
/-- it can be read, and lies apart from block blk -/
def CodeAt (w : World) (blk : Nat) (t : CodeV) : Prop := Rd w t.1 (crCells t.2.2) ∧ t.2.2.length ≤ 140737488355328 ∧ (crCells t.2.2 ≠ [] → ∀ a, t.1 = some a → a.block ≠ blk)

theorem crCells_ne {l : List Cr} : crCells l ≠ [] ↔ l ≠ [] := by
  cases l with
  | nil => simp [crCells]
  | cons x r => simp [crCells, Cr.cells]

theorem fr_sortWorld {α : Type} [Inhabited α] (enc : α → Value) (w : World) (blk m : Nat) (dk : Array α) (os : Array Obj) : Fr [blk] w (sortWorld enc w blk 0 m dk os) := by
  unfold sortWorld
  refine Fr.growS ?_ os
  refine ⟨rfl, rfl, rfl, by simp [Sort.putRow, Sort.mapBlock, Sort.ahead], fun k hk hn => ?_⟩
  have hkg : blk ≠ k := by rintro rfl; exact hn (by simp)
  simp [Sort.putRow, Sort.mapBlock, Sort.ahead, Array.getElem?_modify, hkg]

/-- slices.SortFunc(codes, compared) at a row of the call's own -/
theorem sortCodes_any (items : List CodeV) (g cap base : Nat) (w : World) (hown : OwnR w base 79 1 (some ⟨g, 0, none⟩) items.length cap (items.map encCode)) (hall : ∀ t ∈ items, CodeAt w g t) (hl : items.length ≤ 140737488355328) :
    Calls Tryz.prog 39 #[.slice (some ⟨g, 0, none⟩) items.length cap, .func (.func 38) #[] #[]] w fun e w' => e = .returned (.tuple #[]) ∧ Fr [g] w w' ∧
      ∃ items' : List CodeV, items'.length = items.length ∧ (∀ t ∈ items', t ∈ items) ∧ OwnR w' base 79 1 (some ⟨g, 0, none⟩) items.length cap (items'.map encCode) := by
  have : Inhabited { t : CodeV // CodeAt w g t } := ⟨⟨(none, 0, []), Rd.nil _ _, by simp, fun h => by simp [crCells] at h⟩⟩
  obtain ⟨d, hd⟩ : ∃ d : List { t : CodeV // CodeAt w g t }, d = items.attachWith (CodeAt w g) hall := ⟨_, rfl⟩
  have hdv : d.map (fun x => x.1) = items := by rw [hd]; exact List.attachWith_map_subtype_val hall
  have hdl : d.length = items.length := by rw [← hdv]; simp
  let enc : { t : CodeV // CodeAt w g t } → Value := fun x => encCode x.1
  let cf : { t : CodeV // CodeAt w g t } → { t : CodeV // CodeAt w g t } → Int := fun x y => compF x.1.2.2 y.1.2.2
  have henc : d.map enc = items.map encCode := by rw [← hdv, List.map_map]; rfl
  have hown' : w.ownsRow base 79 1 (.slice (some ⟨g, 0, none⟩) items.length cap) items.length (d.map enc) := by rw [henc]; exact hown
  obtain ⟨g', c', he, _, hg, _, _, _, hH⟩ := Lib.holds_of_ownsRow (enc := enc) (zs := d) hown' (by simp)
  cases he
  have hO : Sort.SWO (ltOf cf) := by
    have h := lin_comp.swo
    exact ⟨fun x => h.irrefl x.1.2.2, fun x y z => h.trans x.1.2.2 y.1.2.2 z.1.2.2, fun x y z => h.ntrans x.1.2.2 y.1.2.2 z.1.2.2⟩
  have hcmp : CmpLays1 Tryz.prog 38 #[] enc cf g 0 d.toArray.size w := by
    intro m os dk _ x y
    have hf := fr_sortWorld enc w g m dk os
    have hrd : ∀ x : { t : CodeV // CodeAt w g t }, Rd (sortWorld enc w g 0 m dk os) x.1.1 (crCells x.1.2.2) := fun x => x.2.1.fr hf (fun hn a ha hm => by simp at hm; exact x.2.2.2 hn a ha hm)
    refine Calls.mono (compared_any x.1.2.2 y.1.2.2 x.1.1 y.1.1 x.1.2.1 y.1.2.1 _ (hrd x) (hrd y) x.2.2.1 y.2.2.1) ?_
    rintro e w' ⟨he, hg⟩
    exact ⟨he, hg.grow⟩
  have hsf := Any.slices_SortFunc Tryz.sf enc (fun _ => rfl) cf hO 38 #[] g 0 cap d.toArray w (enters_of Tryz.func38 (by kernel_rfl) rfl) hcmp hH hg (by rw [List.size_toArray, hdl]; omega)
  have hsz : d.toArray.size = items.length := by simp [hdl]
  rw [hsz] at hsf
  refine Calls.mono (show Calls Tryz.prog 39 _ _ _ from hsf) ?_
  rintro e w' ⟨he, d', n, os, hp, _, rfl⟩
  have hf := fr_sortWorld enc w g n d' os
  have hd's : d'.size = items.length := by have := hp.1; rwa [hsz] at this
  refine ⟨he, hf, d'.toList.map (fun x => x.1), by simp [hd's], ?_, ?_⟩
  · intro t ht
    obtain ⟨x, hx, rfl⟩ := List.mem_map.1 ht
    have h2 := hp.2.2
    have e1 : (d'.extract 0 items.length) = d' := by rw [← hd's]; simp
    have e2 : (d.toArray.extract 0 items.length) = d.toArray := by rw [← hsz]; simp
    rw [e1, e2] at h2
    have := h2.mem_iff.1 hx
    rw [← hdv]
    exact List.mem_map.2 ⟨x, by simpa using this, rfl⟩
  · have hs := Lib.ownsRow_putRow (enc := enc) (q := n) (k := items.length) (ys := d'.toList) hown' (by simp [hd's]) (Nat.le_refl _)
    rw [List.take_of_length_le (by simp [hd's])] at hs
    have hs' : OwnR (Sort.putRow enc (Sort.ahead w n) g 0 d') base 79 1 (some ⟨g, 0, none⟩) items.length cap ((d'.toList.map (fun x => x.1)).map encCode) := by
      rw [List.map_map]; exact hs
    exact hs'.fr ((Fr.refl [] _).growS os) (by simp)
end Go.Proofs.YtjmgjkcjnjlpdaaGreatDoor
