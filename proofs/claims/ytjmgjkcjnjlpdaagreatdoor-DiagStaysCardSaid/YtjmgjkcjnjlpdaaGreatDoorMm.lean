/- sphenoidlaw22.DiagStays: a part of its proof: walks of the functions that it comes to, and plain laws (D39, D40, L6). -/
import Derived.Test.YtjmgjkcjnjlpdaaGreatDoorMl
import Derived.Test.YtjmgjkcjnjlpdaaGreatDoorMi
import Derived.KernelRfl
set_option linter.unusedVariables false
set_option linter.unusedSimpArgs false
set_option linter.unusedSectionVars false
/-! ## D39 -/
namespace Go.Proofs.YtjmgjkcjnjlpdaaGreatDoor
open Go.RowKit

def atI (of : List Int) (a : Int) : Int := (of[a.toNat]?).getD 0
/-- the signs where two components meet, added up -/
def linkF (of : List Int) (i j : Int) : Int → List Cr → Int
  | m, [] => m
  | m, x :: r => linkF of i j (if (atI of x.a == i && atI of x.b == j || atI of x.a == j && atI of x.b == i) = true then wrap64 (m + x.s) else m) r

def LinkPost (w : World) (R : Int × List AE) (L : Int) (of : List Int) (n : Nat) (cs : List Cr) (i j : Int) (e : Ending) (w' : World) : Prop :=
  Fr [] w w' ∧ ((R.1 ≠ 0 ∧ e = .returned (.tuple #[.int .i64 0, .int .i64 R.1])) ∨
    (R.1 = 0 ∧ e = .returned (.tuple #[.int .i64 0, .int .i64 1]) ∧ ¬ (0 ≤ i ∧ 0 ≤ j ∧ i < (n : Int) + L ∧ j < (n : Int) + L ∧ i ≠ j)) ∨
    (R.1 = 0 ∧ (0 ≤ i ∧ 0 ≤ j ∧ i < (n : Int) + L ∧ j < (n : Int) + L ∧ i ≠ j) ∧ e = .returned (.tuple #[.int .i64 (wrap64 (Int.tdiv (linkF of i j 0 cs) 2)), .int .i64 0])))

set_option maxHeartbeats 2000000 in
theorem linkx_any (cs : List Cr) (A : Option Addr) (cap : Nat) (L i j : Int) (w : World) (hr : Rd w A (crCells cs)) (R : Int × List AE) (hR : enterF cs L = some R) (of : List Int) (n : Nat) (hC : R.1 = 0 → componentsF cs R.2 = some (of, n)) :
    Calls Tryz.prog 9 #[.agg #[.slice A cs.length cap, .int .i64 L], .int .i64 i, .int .i64 j] w (LinkPost w R L of n cs i j) := by
  have HR := hid hR
  have hok := hid (enterF_ok hR)
  have HC := hid hC
  clear hR hC
  have hr1 := hid (hr.fr0 (Fr.alloc1 w (.cells #[.slice A cs.length cap, .int .i64 L] 24)))
  obtain ⟨r1, l⟩ := R
  go_enter Tryz.func9, Tryz.ntmps9
  go_wp2_with fail
  refine (enter_any cs A cap L _ hr1.out _ HR.out).mono ?_
  rintro e w1 ⟨hf, ⟨h0, rfl⟩ | ⟨h0, q, B, rfl, hD⟩⟩
  · simp only at h0
    have h0' : (r1 != 0) = true := by simpa using h0
    go_wp2
    go_ret2
    exact ⟨(Fr.alloc1 _ _).trans hf (by simp), .inl ⟨h0, rfl⟩⟩
  · simp only at h0
    subst h0
    have hok' := hok.out rfl
    have hc := HC.out rfl
    have hgood := endsF_ok hok'
    obtain ⟨hn2, hll, hL0, hL1⟩ := endsF_len hok'
    have HLL := hid hll
    have hl4 : l.length ≤ 400 := by omega
    clear hll
    have hcn : n ≤ l.length := by have := hc; unfold componentsF at this; have := comps_le this; simp at this; omega
    have HCC := hid hc
    have HG := hid hgood
    clear hc hok' hgood
    go_wp2_with fail
    refine (components_any hD hl4 _ _ HCC.out).mono ?_
    rintro e w2 ⟨rfl, hf2, hrow, hlen⟩
    have hD2 := hD.fr hf2
    have c1 := hD2.c1
    have c0 := hD2.c0
    obtain ⟨g, hg⟩ : ∃ g, g = w1.heap.size := ⟨_, rfl⟩
    rw [← hg] at hrow ⊢
    have HL := hid hlen
    have hfw : Fr [] w w2 := ((Fr.alloc1 _ _).trans hf (by simp)).trans hf2 (by simp)
    clear hg hlen
    have hq : ((i < 0) ∨ (0 ≤ i ∧ j < 0)) ∨ (0 ≤ i ∧ 0 ≤ j ∧ (n : Int) + L ≤ i) ∨ (0 ≤ i ∧ 0 ≤ j ∧ i < (n : Int) + L ∧ (n : Int) + L ≤ j) ∨ (0 ≤ i ∧ 0 ≤ j ∧ i < (n : Int) + L ∧ j < (n : Int) + L ∧ (i == j) = true) ∨ (0 ≤ i ∧ 0 ≤ j ∧ i < (n : Int) + L ∧ j < (n : Int) + L ∧ (i == j) = false) := by
      cases h : (i == j) <;> simp <;> omega
    rcases hq with (h1 | ⟨h1, h2⟩) | ⟨h1, h2, h3⟩ | ⟨h1, h2, h3, h4⟩ | ⟨h1, h2, h3, h4, h5⟩ | ⟨h1, h2, h3, h4, h5⟩
    iterate 5 (focus
      go_wp2
      go_ret2
      exact ⟨hfw, .inr (.inl ⟨rfl, rfl, by first | omega | (rintro ⟨_, _, _, _, h⟩; exact h (by simpa using h5))⟩)⟩)
    go_wp2
    go_loopw [64, 12] (fun iv nv wr => ∃ (k : Nat) (m : Int), k ≤ cs.length ∧ iv = .int .i64 k ∧ nv = .int .i64 m ∧ linkF of i j 0 cs = linkF of i j m (cs.drop k) ∧ Fr [] w2 wr) (fun iv _ _ => cs.length - (intOf iv).toNat)
    case atStart => exact ⟨0, 0, by omega, rfl, rfl, by simp, Fr.refl _ _⟩
    case round =>
      obtain ⟨k, m, hk, rfl, rfl, hlk, hf3⟩ := hrel
      by_cases hlt : k < cs.length
      · obtain ⟨x, hx⟩ : ∃ x, cs[k]? = some x := ⟨cs[k], List.getElem?_eq_getElem hlt⟩
        obtain ⟨b, off, rfl, hb, x0, x1, x2, x3, x4⟩ := ((hD2.fr hf3).rc).cr hx
        obtain ⟨_, a0, a1, b0, b1, _, _, _, _⟩ := HG.out x (List.mem_of_getElem? hx)
        rw [List.drop_eq_getElem_cons hlt, show cs[k] = x from (List.getElem?_eq_some_iff.1 hx).2] at hlk
        simp only [linkF] at hlk
        obtain ⟨xa, hxa⟩ := Int.eq_ofNat_of_zero_le a0
        obtain ⟨xb, hxb⟩ := Int.eq_ofNat_of_zero_le b0
        rw [hxa] at x0 a1
        rw [hxb] at x1 b1
        rw [hxa, hxb] at hlk
        have ha : xa < l.length := by have := HLL.out; omega
        have hb' : xb < l.length := by have := HLL.out; omega
        have hlo : of[xa]? = some (of[xa]'(by have := HL.out; omega)) := List.getElem?_eq_getElem _
        have hup : of[xb]? = some (of[xb]'(by have := HL.out; omega)) := List.getElem?_eq_getElem _
        obtain ⟨lo, hlo'⟩ : ∃ v, of[xa]'(by have := HL.out; omega) = v := ⟨_, rfl⟩
        obtain ⟨up, hup'⟩ : ∃ v, of[xb]'(by have := HL.out; omega) = v := ⟨_, rfl⟩
        rw [hlo'] at hlo
        rw [hup'] at hup
        have y0 : wr.cell? ⟨g, xa, none⟩ = some (.int .i64 lo) := by rw [(hrow.fr hf3 (by simp)).cell]; exact ints_get hlo
        have y1 : wr.cell? ⟨g, xb, none⟩ = some (.int .i64 up) := by rw [(hrow.fr hf3 (by simp)).cell]; exact ints_get hup
        have hgb : g < wr.heap.size := (hrow.fr hf3 (by simp)).lt
        have hq : ((lo == i) = true ∧ (up == j) = true) ∨
           (((lo == i) = false ∨ ((lo == i) = true ∧ (up == j) = false)) ∧ ((lo == j) = false ∨ ((lo == j) = true ∧ (up == i) = false) ∨ ((lo == j) = true ∧ (up == i) = true))) := by
          cases (lo == i) <;> cases (up == j) <;> cases (lo == j) <;> cases (up == i) <;> simp
        have hal : atI of (xa : Int) = lo := by simp [atI, hlo]
        have hau : atI of (xb : Int) = up := by simp [atI, hup]
        rw [hal, hau] at hlk
        have HLK := hid hlk
        clear hlo hup hlo' hup' hx a0 b0 hlk hal hau
        rcases hq with ⟨e1, e2⟩ | ⟨e1 | ⟨e1, e2⟩, e3 | ⟨e3, e4⟩ | ⟨e3, e4⟩⟩
        all_goals
          go_wp2
          go_region
          all_goals
            go_wp2
            go_roundw
            case rel => exact ⟨k + 1, _, by omega, by go_num, rfl, by rw [HLK.out]; simp_all, (hf3.alloc _).drew⟩
            case measure => simp [intOf]; omega
      · obtain rfl : k = cs.length := by omega
        go_wp2
        go_ret2
        rw [List.drop_length] at hlk
        exact ⟨hfw.trans hf3 (by simp), .inr (.inr ⟨rfl, ⟨h1, h2, h3, h4, by simpa using h5⟩, by rw [hlk]; rfl⟩)⟩
end Go.Proofs.YtjmgjkcjnjlpdaaGreatDoor

/-! ## D40 -/
namespace Go.Proofs.YtjmgjkcjnjlpdaaGreatDoor
open Go.RowKit

def hopfC : List Cr := [⟨0, 3, 1, 2, 1⟩, ⟨3, 0, 2, 1, 1⟩]
def hopfL : List AE := [⟨1, 3, 0, 0⟩, ⟨0, 2, 1, 3⟩, ⟨1, 2, 0, 3⟩, ⟨0, 1, 1, 0⟩]
def flatC : List Cr := [⟨0, 3, 1, 2, 1⟩, ⟨3, 1, 2, 0, -1⟩]
def mirC : List Cr := [⟨2, 0, 3, 1, -1⟩, ⟨1, 3, 0, 2, -1⟩]
theorem hopf_enter : (enterF hopfC 0).map (·.1) = some 0 := by kernel_rfl
theorem hopf_comp : ((enterF hopfC 0).bind fun R => componentsF hopfC R.2) = some ([0, 0, 1, 1], 2) := by kernel_rfl
theorem hopf_regs : (((enterF hopfC 0).bind fun R => regionsF hopfC R.2).map (·.length)) = some 4 := by kernel_rfl
theorem hopf_writhe : writheF 0 hopfC = 2 := by kernel_rfl
theorem hopf_link : wrap64 (Int.tdiv (linkF [0, 0, 1, 1] 0 1 0 hopfC) 2) = 1 := by kernel_rfl
theorem hopf_mir : hopfC.map mirF = mirC := by kernel_rfl
theorem mir_enter : (enterF mirC 0).map (·.1) = some 0 := by kernel_rfl
theorem flat_enter : (enterF flatC 0).map (·.1) = some 221 := by kernel_rfl
theorem dec_small (u : Nat) (h : u < 10) : Lib.decDigits u = [UInt8.ofNat (48 + u)] := by rw [Lib.decDigits, dif_pos h]
theorem mir_text : textF mirC 0 = [45, 32, 50, 32, 48, 32, 51, 32, 49, 59, 32, 45, 32, 49, 32, 51, 32, 48, 32, 50, 32, 124, 32, 48] := by
  have i0 : Lib.itoa 0 = [48] := by unfold Lib.itoa; rw [if_neg (by omega), dec_small _ (by decide)]; rfl
  have i1 : Lib.itoa 1 = [49] := by unfold Lib.itoa; rw [if_neg (by omega), dec_small _ (by decide)]; rfl
  have i2 : Lib.itoa 2 = [50] := by unfold Lib.itoa; rw [if_neg (by omega), dec_small _ (by decide)]; rfl
  have i3 : Lib.itoa 3 = [51] := by unfold Lib.itoa; rw [if_neg (by omega), dec_small _ (by decide)]; rfl
  unfold textF
  rw [if_neg (by simp [mirC])]
  simp [mirC, crText, crTextN, List.range_succ, Cr.arc, i0, i1, i2, i3, sgnT, Lib.join, List.intercalate]

set_option maxHeartbeats 400000 in
theorem hopf_any (w : World) : Calls Tryz.prog 41 #[] w fun e w' => ∃ g, e = .returned (.agg #[.slice (some ⟨g, 0, none⟩) 2 2, .int .i64 0]) ∧ Fr [] w w' ∧ RowAt w' g 54 (crCells hopfC) ∧ w.heap.size ≤ g := by
  go_enter Tryz.func41, Tryz.ntmps41
  go_wp2
  refine bodyPost_ret (v := .agg #[.slice (some ⟨w.heap.size + 1, 0, none⟩) 2 2, .int .i64 0]) ?_ rfl ⟨w.heap.size + 1, rfl, ?_, ?_, by omega⟩
  · simp [results, Tryz.results41, go_sem]
  · exact (Fr.alloc1 _ _).alloc _
  · have := RowAt.new (w.alloc (.cells #[.slice (some ⟨w.heap.size + 1, 0, none⟩) 2 2, .int .i64 0] 24)) 54 (crCells hopfC)
    rw [World.size_alloc] at this
    exact this

theorem hopfR : ∃ R, enterF hopfC 0 = some R ∧ R.1 = 0 := by
  have h := hopf_enter
  cases h1 : enterF hopfC 0 with
  | none => rw [h1] at h; cases h
  | some R => rw [h1] at h; exact ⟨R, rfl, by simpa using h⟩
theorem mirR : ∃ R, enterF mirC 0 = some R ∧ R.1 = 0 := by
  have h := mir_enter
  cases h1 : enterF mirC 0 with
  | none => rw [h1] at h; cases h
  | some R => rw [h1] at h; exact ⟨R, rfl, by simpa using h⟩
theorem flatR : ∃ R, enterF flatC 0 = some R ∧ R.1 = 221 := by
  have h := flat_enter
  cases h1 : enterF flatC 0 with
  | none => rw [h1] at h; cases h
  | some R => rw [h1] at h; exact ⟨R, rfl, by simpa using h⟩

/-! the calls of sane, one by one -/
theorem hopf_comps (g : Nat) (w : World) (h : RowAt w g 54 (crCells hopfC)) : Calls Tryz.prog 6 #[.agg #[.slice (some ⟨g, 0, none⟩) 2 2, .int .i64 0]] w fun e w' => ∃ b, e = .returned (.tuple #[.slice (some ⟨b, 0, none⟩) 4 4, .int .i64 2, .int .i64 0]) ∧ Fr [] w w' ∧ RowAt w' b 3 (ints [0, 0, 1, 1]) := by
  obtain ⟨R, hR, h0⟩ := hopfR
  have hc := hopf_comp
  rw [hR] at hc
  refine (comps_any hopfC (some ⟨g, 0, none⟩) 2 0 w h.rd R hR [0, 0, 1, 1] 2 (fun _ => hc)).mono ?_
  rintro e w' ⟨hf, ⟨h1, -⟩ | ⟨-, b, he, hrow, hl⟩⟩
  · exact absurd h0 h1
  · rw [← hl] at he
    exact ⟨b, he, hf, hrow⟩
theorem hopf_wr (g : Nat) (w : World) (h : RowAt w g 54 (crCells hopfC)) : Calls Tryz.prog 8 #[.agg #[.slice (some ⟨g, 0, none⟩) 2 2, .int .i64 0]] w fun e w' => e = .returned (.tuple #[.int .i64 2, .int .i64 0]) ∧ Fr [] w w' := by
  obtain ⟨R, hR, h0⟩ := hopfR
  refine (writhe_any hopfC (some ⟨g, 0, none⟩) 2 0 w h.rd R hR).mono ?_
  rintro e w' ⟨hf, ⟨h1, -⟩ | ⟨-, he⟩⟩
  · exact absurd h0 h1
  · rw [hopf_writhe] at he; exact ⟨he, hf⟩
theorem hopf_lk (g : Nat) (w : World) (h : RowAt w g 54 (crCells hopfC)) : Calls Tryz.prog 9 #[.agg #[.slice (some ⟨g, 0, none⟩) 2 2, .int .i64 0], .int .i64 0, .int .i64 1] w fun e w' => e = .returned (.tuple #[.int .i64 1, .int .i64 0]) ∧ Fr [] w w' := by
  obtain ⟨R, hR, h0⟩ := hopfR
  have hc := hopf_comp
  rw [hR] at hc
  refine (linkx_any hopfC (some ⟨g, 0, none⟩) 2 0 0 1 w h.rd R hR [0, 0, 1, 1] 2 (fun _ => hc)).mono ?_
  rintro e w' ⟨hf, ⟨h1, -⟩ | ⟨-, -, h1⟩ | ⟨-, -, he⟩⟩
  · exact absurd h0 h1
  · exact absurd (by decide) h1
  · rw [hopf_link] at he; exact ⟨he, hf⟩
theorem hopf_mirror (g : Nat) (w : World) (h : RowAt w g 54 (crCells hopfC)) : Calls Tryz.prog 10 #[.agg #[.slice (some ⟨g, 0, none⟩) 2 2, .int .i64 0]] w fun e w' => ∃ A c, e = .returned (.tuple #[.agg #[.slice A 2 c, .int .i64 0], .int .i64 0]) ∧ Fr [] w w' ∧ Rd w' A (crCells mirC) := by
  obtain ⟨R, hR, h0⟩ := hopfR
  refine (mirror_any hopfC (some ⟨g, 0, none⟩) 2 0 w h.rd R hR).mono ?_
  rintro e w' ⟨hf, ⟨h1, -⟩ | ⟨-, A, c, he, hown⟩⟩
  · exact absurd h0 h1
  · rw [hopf_mir] at he hown
    exact ⟨A, c, he, hf, hown.rd⟩
theorem mir_txt (A : Option Addr) (c : Nat) (w : World) (h : Rd w A (crCells mirC)) (hT : TabAt w) : Calls Tryz.prog 5 #[.agg #[.slice A 2 c, .int .i64 0]] w fun e w' => e = .returned (.tuple #[.string { data := #[45, 32, 50, 32, 48, 32, 51, 32, 49, 59, 32, 45, 32, 49, 32, 51, 32, 48, 32, 50, 32, 124, 32, 48] }, .int .i64 0]) ∧ Fr [] w w' := by
  obtain ⟨R, hR, h0⟩ := mirR
  refine (text_any mirC A c 0 w h hT R hR (fun h1 => ?_)).mono ?_
  · have hk := enterF_ok hR h1
    obtain ⟨h2, -, h3, h4⟩ := endsF_len hk
    exact ⟨endsF_ok hk, h2, h3, h4⟩
  rintro e w' ⟨hf, ⟨h1, -⟩ | ⟨-, he⟩⟩
  · exact absurd h0 h1
  · rw [mir_text] at he; exact ⟨he, hf⟩
theorem hopf_rg (g : Nat) (w : World) (h : RowAt w g 54 (crCells hopfC)) : Calls Tryz.prog 7 #[.agg #[.slice (some ⟨g, 0, none⟩) 2 2, .int .i64 0]] w fun e w' => ∃ A c, e = .returned (.tuple #[.slice A 4 c, .int .i64 0]) ∧ Fr [] w w' := by
  obtain ⟨R, hR, h0⟩ := hopfR
  have hc := hopf_regs
  rw [hR] at hc
  obtain ⟨rs, hrs, hl⟩ := Option.map_eq_some_iff.1 hc
  refine (regs_any hopfC (some ⟨g, 0, none⟩) 2 0 w h.rd R hR rs (fun _ => hrs)).mono ?_
  rintro e w' ⟨hf, ⟨h1, -⟩ | ⟨-, A, c, he⟩⟩
  · exact absurd h0 h1
  · rw [hl] at he; exact ⟨A, c, he, hf⟩
theorem flat_ck (g : Nat) (w : World) (h : RowAt w g 54 (crCells flatC)) : Calls Tryz.prog 4 #[.agg #[.slice (some ⟨g, 0, none⟩) 2 2, .int .i64 0]] w fun e w' => e = .returned (.int .i64 221) ∧ Fr [] w w' := by
  obtain ⟨R, hR, h0⟩ := flatR
  refine (check_any flatC (some ⟨g, 0, none⟩) 2 0 w h.rd R hR).mono ?_
  rintro e w' ⟨he, hf⟩
  rw [h0] at he; exact ⟨he, hf⟩

set_option maxHeartbeats 2000000 in
set_option maxRecDepth 100000 in
theorem sane_any (w : World) (hT : TabAt w) : Calls Tryz.prog 18 #[] w fun e w' => e = .returned (.bool true) ∧ Fr [] w w' := by
  have HT := hid hT
  clear hT
  go_enter Tryz.func18, Tryz.ntmps18
  go_wp2_with fail
  refine (hopf_any w).mono ?_
  rintro e w1 ⟨g1, rfl, hf1, hr1, -⟩
  go_wp2_with fail
  refine (hopf_comps g1 w1 hr1).mono ?_
  rintro e w2 ⟨b2, rfl, hf2, hr2⟩
  have F2 := hf1.then hf2
  clear hf1 hf2 hr1
  go_wp2_with fail
  refine (hopf_any w2).mono ?_
  rintro e w3 ⟨g3, rfl, hf3, hr3, -⟩
  go_wp2_with fail
  refine (hopf_wr g3 w3 hr3).mono ?_
  rintro e w4 ⟨rfl, hf4⟩
  have F4 := F2.then (hf3.then hf4)
  have hr24 := hr2.fr (hf3.then hf4) (by simp)
  clear hf3 hf4 hr3 F2 hr2
  go_wp2_with fail
  refine (hopf_any w4).mono ?_
  rintro e w5 ⟨g5, rfl, hf5, hr5, -⟩
  go_wp2_with fail
  refine (hopf_lk g5 w5 hr5).mono ?_
  rintro e w6 ⟨rfl, hf6⟩
  have F6 := F4.then (hf5.then hf6)
  have hr26 := hr24.fr (hf5.then hf6) (by simp)
  clear hf5 hf6 hr5 F4 hr24
  go_wp2_with fail
  refine (hopf_any w6).mono ?_
  rintro e w7 ⟨g7, rfl, hf7, hr7, -⟩
  go_wp2_with fail
  refine (hopf_mirror g7 w7 hr7).mono ?_
  rintro e w8 ⟨A8, c8, rfl, hf8, hr8⟩
  have F8 := F6.then (hf7.then hf8)
  have hr28 := hr26.fr (hf7.then hf8) (by simp)
  clear hf7 hf8 hr7 F6 hr26
  go_wp2_with fail
  have hfa : Fr [] w8 (w8.alloc (.cells #[.slice A8 2 c8, .int .i64 0] 24)) := Fr.alloc1 _ _
  refine (mir_txt A8 c8 _ (hr8.fr0 hfa) (HT.out.fr (F8.then hfa))).mono ?_
  rintro e w9 ⟨rfl, hf9⟩
  have F9 := F8.then (hfa.then hf9)
  have hr29 := hr28.fr (hfa.then hf9) (by simp)
  clear hf9 hfa F8 hr28 hr8
  go_wp2_with fail
  refine (hopf_any w9).mono ?_
  rintro e w10 ⟨g10, rfl, hf10, hr10, -⟩
  go_wp2_with fail
  refine (hopf_rg g10 w10 hr10).mono ?_
  rintro e w11 ⟨A11, c11, rfl, hf11⟩
  have F11 := F9.then (hf10.then hf11)
  have hr211 := hr29.fr (hf10.then hf11) (by simp)
  clear hf10 hf11 hr10 F9 hr29
  go_wp2_with fail
  refine (hopf_any w11).mono ?_
  rintro e w12 ⟨g12, rfl, hf12, hr12, hg12⟩
  have F12 := F11.then hf12
  have hr212 := hr211.fr hf12 (by simp)
  have hb2 := hr211.lt
  have y5 : w12.cell? ⟨g12, 5, none⟩ = some (.int .i64 3) := hr12.cell 5
  have y6 : w12.cell? ⟨g12, 6, none⟩ = some (.int .i64 0) := hr12.cell 6
  have y7 : w12.cell? ⟨g12, 7, none⟩ = some (.int .i64 2) := hr12.cell 7
  have y8 : w12.cell? ⟨g12, 8, none⟩ = some (.int .i64 1) := hr12.cell 8
  have y9 : w12.cell? ⟨g12, 9, none⟩ = some (.int .i64 1) := hr12.cell 9
  have yf := fun i => hr12.frozen i
  have ylt := hr12.lt
  have HR12 := hid hr12
  have HR2 := hid hr212
  have hbg : b2 ≠ g12 := by omega
  clear hr12 hr212 hr211 hf12
  go_wp2_with fail
  obtain ⟨U, hU⟩ : ∃ U, U = (((((w12.setCell ⟨g12, 5, none⟩ (.int .i64 3)).setCell ⟨g12, 6, none⟩ (.int .i64 1)).setCell ⟨g12, 7, none⟩ (.int .i64 2)).setCell ⟨g12, 8, none⟩ (.int .i64 0)).setCell ⟨g12, 9, none⟩ (.int .i64 (-1))) := ⟨_, rfl⟩
  have hfU : Fr [g12] w12 U := by
    rw [hU]
    exact (((((Fr.refl [g12] w12).setCell (.inl (by simp)) _).setCell (.inl (by simp)) _).setCell (.inl (by simp)) _).setCell (.inl (by simp)) _).setCell (.inl (by simp)) _
  have hrU : RowAt U g12 54 (crCells flatC) := by
    rw [hU]
    exact ((((HR12.out.set 5 (.int .i64 3)).set 6 (.int .i64 1)).set 7 (.int .i64 2)).set 8 (.int .i64 0)).set 9 (.int .i64 (-1))
  have hUs : U.heap.size = w12.heap.size := by rw [hU]; simp
  rw [← hU]
  clear hU y5 y6 y7 y8 y9 yf
  obtain ⟨V, hV⟩ : ∃ V, V = (U.alloc (.cells #[.slice (some ⟨g12, 0, none⟩) 2 2, .int .i64 0] 24)).alloc (.cells #[.int .i64 0, .int .i64 0, .int .i64 1, .int .i64 1] 3) := ⟨_, rfl⟩
  have hfV : Fr [] U V := by rw [hV]; exact (Fr.alloc1 _ _).alloc _
  have hnV : RowAt V (w12.heap.size + 1) 3 (ints [0, 0, 1, 1]) := by
    rw [← hUs]
    have := RowAt.new (U.alloc (.cells #[.slice (some ⟨g12, 0, none⟩) 2 2, .int .i64 0] 24)) 3 (ints [0, 0, 1, 1])
    rw [World.size_alloc] at this
    rw [hV]; exact this
  have v0 : V.cell? ⟨w12.heap.size, 0, none⟩ = some (.slice (some ⟨g12, 0, none⟩) 2 2) := by rw [← hUs, hV]; go_simp
  have v1 : V.cell? ⟨w12.heap.size, 1, none⟩ = some (.int .i64 0) := by rw [← hUs, hV]; go_simp
  have hvl : w12.heap.size < V.heap.size := by rw [← hUs, hV]; simp; omega
  have hb2V := (HR2.out.fr hfU (by simpa using hbg)).fr hfV (by simp)
  have hgV := hrU.fr hfV (by simp)
  rw [← hV]
  clear hV hUs
  refine (sameInts_any [0, 0, 1, 1] (some ⟨b2, 0, none⟩) (some ⟨w12.heap.size + 1, 0, none⟩) 4 4 V hb2V.rd hnV.rd (by simp)).mono ?_
  rintro e w13 ⟨rfl, hf13⟩
  have v0' := hf13.cell v0 (by simp)
  have v1' := hf13.cell v1 (by simp)
  have hvl' := Nat.lt_of_lt_of_le hvl hf13.size
  clear v0 v1 hvl
  go_wp2_with fail
  refine (flat_ck g12 w13 (hgV.fr hf13 (by simp))).mono ?_
  rintro e w14 ⟨rfl, hf14⟩
  go_wp2
  go_ret
  refine ⟨rfl, ((F12.trans hfU (fun k hk => ?_)).then hfV).then (hf13.then hf14)⟩
  simp at hk
  subst hk
  exact .inr (Nat.le_trans F11.size hg12)
end Go.Proofs.YtjmgjkcjnjlpdaaGreatDoor

/-! ## L6 -/
namespace Go.Proofs.YtjmgjkcjnjlpdaaGreatDoor
open Go.RowKit

/-! ### every function of the package answers, and leaves memory as it lay -/
theorem comp_total {cs : List Cr} {L : Int} {R : Int × List AE} (h : enterF cs L = some R) : ∃ of n, R.1 = 0 → componentsF cs R.2 = some (of, n) := by
  by_cases h0 : R.1 = 0
  · obtain ⟨of, n, h1⟩ := (endsF_arcs (enterF_ok h h0)).components
    exact ⟨of, n, fun _ => h1⟩
  · exact ⟨[], 0, fun h1 => absurd h1 h0⟩
theorem regs_total {cs : List Cr} {L : Int} {R : Int × List AE} (h : enterF cs L = some R) : ∃ rs, R.1 = 0 → regionsF cs R.2 = some rs := by
  by_cases h0 : R.1 = 0
  · obtain ⟨rs, h1, _⟩ := (endsF_arcs (enterF_ok h h0)).regions
    exact ⟨rs, fun _ => h1⟩
  · exact ⟨[], fun h1 => absurd h1 h0⟩

theorem DiaPost.quiet {w : World} {r : Int} {cs' : List Cr} {L : Int} {e : Ending} {w' : World} (h : DiaPost w r cs' L e w') : Quiet w e w' := by
  obtain ⟨hf, ⟨-, h⟩ | ⟨-, g, c, h, -⟩⟩ := h
  · exact .of _ h hf
  · exact .of _ h hf

section
variable (cs : List Cr) (A : Option Addr) (cap : Nat) (L : Int) (w : World) (hr : Rd w A (crCells cs))
include hr
theorem q_check : Calls Tryz.prog 4 #[.agg #[.slice A cs.length cap, .int .i64 L]] w (Quiet w) := by
  obtain ⟨R, hR⟩ := enterF_total cs L
  exact (check_any cs A cap L w hr R hR).mono fun e w' ⟨h1, h2⟩ => .of _ h1 h2
theorem q_text (hT : TabAt w) : Calls Tryz.prog 5 #[.agg #[.slice A cs.length cap, .int .i64 L]] w (Quiet w) := by
  obtain ⟨R, hR⟩ := enterF_total cs L
  refine (text_any cs A cap L w hr hT R hR (fun h0 => ?_)).mono ?_
  · have hk := enterF_ok hR h0
    obtain ⟨h2, -, h3, h4⟩ := endsF_len hk
    exact ⟨endsF_ok hk, h2, h3, h4⟩
  · rintro e w' ⟨hf, ⟨-, h⟩ | ⟨-, h⟩⟩
    · exact .of _ h hf
    · exact .of _ h hf
theorem q_comps : Calls Tryz.prog 6 #[.agg #[.slice A cs.length cap, .int .i64 L]] w (Quiet w) := by
  obtain ⟨R, hR⟩ := enterF_total cs L
  obtain ⟨of, n, hC⟩ := comp_total hR
  refine (comps_any cs A cap L w hr R hR of n hC).mono ?_
  rintro e w' ⟨hf, ⟨-, h⟩ | ⟨-, g, h, -⟩⟩
  · exact .of _ h hf
  · exact .of _ h hf
theorem q_regs : Calls Tryz.prog 7 #[.agg #[.slice A cs.length cap, .int .i64 L]] w (Quiet w) := by
  obtain ⟨R, hR⟩ := enterF_total cs L
  obtain ⟨rs, hC⟩ := regs_total hR
  refine (regs_any cs A cap L w hr R hR rs hC).mono ?_
  rintro e w' ⟨hf, ⟨-, h⟩ | ⟨-, g, c, h⟩⟩
  · exact .of _ h hf
  · exact .of _ h hf
theorem q_writhe : Calls Tryz.prog 8 #[.agg #[.slice A cs.length cap, .int .i64 L]] w (Quiet w) := by
  obtain ⟨R, hR⟩ := enterF_total cs L
  refine (writhe_any cs A cap L w hr R hR).mono ?_
  rintro e w' ⟨hf, ⟨-, h⟩ | ⟨-, h⟩⟩
  · exact .of _ h hf
  · exact .of _ h hf
theorem q_link (i j : Int) : Calls Tryz.prog 9 #[.agg #[.slice A cs.length cap, .int .i64 L], .int .i64 i, .int .i64 j] w (Quiet w) := by
  obtain ⟨R, hR⟩ := enterF_total cs L
  obtain ⟨of, n, hC⟩ := comp_total hR
  exact linking_any cs A cap L i j w hr R hR of n hC
theorem q_mirror : Calls Tryz.prog 10 #[.agg #[.slice A cs.length cap, .int .i64 L]] w (Quiet w) := by
  obtain ⟨R, hR⟩ := enterF_total cs L
  exact (mirror_any cs A cap L w hr R hR).mono fun e w' h => h.quiet
theorem q_reflect : Calls Tryz.prog 11 #[.agg #[.slice A cs.length cap, .int .i64 L]] w (Quiet w) := by
  obtain ⟨R, hR⟩ := enterF_total cs L
  exact (reflect_any cs A cap L w hr R hR).mono fun e w' h => h.quiet
theorem q_reverse (ks : List Int) (X : Option Addr) (capX : Nat) (hX : Rd w X (ints ks)) (hks : ks.length ≤ 140737488355328) : Calls Tryz.prog 12 #[.agg #[.slice A cs.length cap, .int .i64 L], .slice X ks.length capX] w (Quiet w) := by
  obtain ⟨R, hR⟩ := enterF_total cs L
  obtain ⟨of, n, hC⟩ := comp_total hR
  exact reverse_any cs A cap L ks X capX w hr hX hks R hR of n hC
theorem q_renumber (order arcs : List Int) (Ao Aa : Option Addr) (co ca : Nat) (ho : Rd w Ao (ints order)) (ha : Rd w Aa (ints arcs)) (hlo : order.length ≤ 17592186044415) (hla : arcs.length ≤ 17592186044415) :
    Calls Tryz.prog 13 #[.agg #[.slice A cs.length cap, .int .i64 L], .slice Ao order.length co, .slice Aa arcs.length ca] w (Quiet w) := by
  obtain ⟨R, hR⟩ := enterF_total cs L
  exact renumber_any cs A cap L order arcs Ao Aa co ca w hr ho ha hlo hla R hR
theorem q_canonical : Calls Tryz.prog 16 #[.agg #[.slice A cs.length cap, .int .i64 L]] w (Quiet w) := by
  obtain ⟨R, hR⟩ := enterF_total cs L
  exact canonical_any cs A cap L w hr R hR
theorem q_union (bl : List Cr) (B : Option Addr) (capB : Nat) (Lb : Int) (hrb : Rd w B (crCells bl)) : Calls Tryz.prog 14 #[.agg #[.slice A cs.length cap, .int .i64 L], .agg #[.slice B bl.length capB, .int .i64 Lb]] w (Quiet w) := by
  obtain ⟨R, hR⟩ := enterF_total cs L
  obtain ⟨Rb, hRb⟩ := enterF_total bl Lb
  refine (Union_any cs bl A B cap capB L Lb w hr hrb R Rb hR hRb).mono ?_
  rintro e w' ⟨r, h, -⟩
  exact h.quiet
theorem q_sum (bl : List Cr) (B : Option Addr) (capB : Nat) (Lb i j : Int) (hrb : Rd w B (crCells bl)) : Calls Tryz.prog 15 #[.agg #[.slice A cs.length cap, .int .i64 L], .int .i64 i, .agg #[.slice B bl.length capB, .int .i64 Lb], .int .i64 j] w (Quiet w) := by
  obtain ⟨R, hR⟩ := enterF_total cs L
  obtain ⟨Rb, hRb⟩ := enterF_total bl Lb
  refine sum_any cs bl A B cap capB L Lb i j w hr hrb R Rb hR hRb (fun h1 h2 h3 h4 => ?_)
  obtain ⟨l, hl⟩ := endsF_union (enterF_ok hR h1) (enterF_ok hRb h2) h3 h4
  exact ⟨l, hl, endsF_pl hl⟩
theorem q_same (bl : List Cr) (B : Option Addr) (capB : Nat) (Lb : Int) (hrb : Rd w B (crCells bl)) (hla : cs.length ≤ 140737488355328) (hlb : bl.length ≤ 140737488355328) : Calls Tryz.prog 17 #[.agg #[.slice A cs.length cap, .int .i64 L], .agg #[.slice B bl.length capB, .int .i64 Lb]] w (Quiet w) := by
  refine (same_any cs bl A B cap capB L Lb w hr hrb hla hlb).mono ?_
  rintro e w' ⟨⟨b, h⟩, hf⟩
  exact .of _ h hf
end
end Go.Proofs.YtjmgjkcjnjlpdaaGreatDoor
