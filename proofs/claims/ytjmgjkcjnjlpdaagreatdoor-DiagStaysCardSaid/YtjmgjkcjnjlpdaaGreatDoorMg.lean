/- sphenoidlaw22.DiagStays: a part of its proof: walks of the functions that it comes to, and plain laws (D22, L1, L2, L3, L4). -/
import Derived.Test.YtjmgjkcjnjlpdaaGreatDoorMf
import Derived.BigQuiet
import Derived.Deep.DeepCutAuto
import Derived.Deep.RegionHeld3
set_option linter.unusedVariables false
set_option linter.unusedSimpArgs false
set_option linter.unusedSectionVars false
/-! ## D22 -/
namespace Go.Proofs.YtjmgjkcjnjlpdaaGreatDoor
open Go.RowKit

def thereF (k : Int) (n : Nat) (L : Int) : Bool := (decide (0 ≤ k) && decide (k < 2 * (n : Int))) || (k == -1 && decide (0 < L))

set_option maxHeartbeats 1000000 in
theorem there_any (k : Int) (B : Option Addr) (n cap : Nat) (L : Int) (hn : n ≤ 200) (w : World) :
    Calls Tryz.prog 34 #[.int .i64 k, .agg #[.slice B n cap, .int .i64 L]] w fun e w' => e = .returned (.bool (thereF k n L)) ∧ Fr [] w w' := by
  have hq : (0 ≤ k ∧ k < 2 * (n : Int)) ∨ (0 ≤ k ∧ 2 * (n : Int) ≤ k ∧ (k == -1) = false) ∨ (k < 0 ∧ (k == -1) = false) ∨ ((k < 0 ∧ k = -1) ∧ 0 < L) ∨ ((k < 0 ∧ k = -1) ∧ L ≤ 0) := by
    cases h : (k == -1) <;> simp at h ⊢ <;> omega
  rcases hq with ⟨h1, h2⟩ | ⟨h1, h2, h3⟩ | ⟨h1, h2⟩ | ⟨⟨h1, rfl⟩, h2⟩ | ⟨⟨h1, rfl⟩, h2⟩
  all_goals
    go_enter Tryz.func34, Tryz.ntmps34
    go_wp2
    go_ret
    refine ⟨?_, Fr.alloc1 _ _⟩
    simp [thereF, *]
    try omega

/-- every place that ends has put down is one -/
def PlOk (cs : List Cr) (l : List AE) : Prop := ∀ (a : Nat) (y : AE), l[a]? = some y → ∃ bc bp ec ep : Nat, y = ⟨bc, bp, ec, ep⟩ ∧ bc < cs.length ∧ bp < 4 ∧ ec < cs.length ∧ ep < 4

/-- the memory of Sum behind the union -/
structure SumAt (w : World) (al bl : List Cr) (A B : Option Addr) (capA capB : Nat) (La Lb : Int) (A' : Option Addr) (c' pu : Nat) (V : World) : Prop where
  fr : Fr [] w V
  c0 : V.cell? ⟨w.heap.size, 0, none⟩ = some (.slice A al.length capA)
  c1 : V.cell? ⟨w.heap.size, 1, none⟩ = some (.int .i64 La)
  d0 : V.cell? ⟨w.heap.size + 1, 0, none⟩ = some (.slice B bl.length capB)
  d1 : V.cell? ⟨w.heap.size + 1, 1, none⟩ = some (.int .i64 Lb)
  g0 : V.cell? ⟨w.heap.size + 1 + 1, 0, none⟩ = some (.slice none 0 0)
  g1 : V.cell? ⟨w.heap.size + 1 + 1, 1, none⟩ = some (.int .i64 0)
  gf : ∀ i, V.frozen? ⟨w.heap.size + 1 + 1, i, none⟩ = false
  v0 : V.cell? ⟨pu, 0, none⟩ = some (.slice A' (unionF al bl).length c')
  v1 : V.cell? ⟨pu, 1, none⟩ = some (.int .i64 (La + Lb))
  vf : ∀ i, V.frozen? ⟨pu, i, none⟩ = false
  own : OwnR V (w.heap.size + 3) 54 5 A' (unionF al bl).length c' (crCells (unionF al bl))
  ne : ∀ a, A' = some a → a.block ≠ pu
  pu0 : w.heap.size + 3 ≤ pu
  lt : pu < V.heap.size

theorem SumAt.to {w : World} {al bl : List Cr} {A B : Option Addr} {capA capB : Nat} {La Lb : Int} {A' : Option Addr} {c' pu : Nat} {V V' : World} (h : SumAt w al bl A B capA capB La Lb A' c' pu V) (hf : Fr [] V V') : SumAt w al bl A B capA capB La Lb A' c' pu V' where
  fr := h.fr.trans hf (by simp)
  c0 := hf.cell h.c0 (by simp)
  c1 := hf.cell h.c1 (by simp)
  d0 := hf.cell h.d0 (by simp)
  d1 := hf.cell h.d1 (by simp)
  g0 := hf.cell h.g0 (by simp)
  g1 := hf.cell h.g1 (by simp)
  gf := fun i => (hf.frozenE (p := ⟨w.heap.size + 1 + 1, i, none⟩) (by have := h.pu0; have := h.lt; simp; omega) (by simp)).trans (h.gf i)
  v0 := hf.cell h.v0 (by simp)
  v1 := hf.cell h.v1 (by simp)
  vf := fun i => (hf.frozenE (p := ⟨pu, i, none⟩) h.lt (by simp)).trans (h.vf i)
  own := h.own.fr hf (by simp)
  ne := h.ne
  pu0 := h.pu0
  lt := Nat.lt_of_lt_of_le h.lt hf.size

set_option maxHeartbeats 2000000 in
set_option maxRecDepth 100000 in
theorem sum_any (al bl : List Cr) (A B : Option Addr) (capA capB : Nat) (La Lb i j : Int) (w : World) (hra : Rd w A (crCells al)) (hrb : Rd w B (crCells bl)) (Ra Rb : Int × List AE) (hRa : enterF al La = some Ra) (hRb : enterF bl Lb = some Rb)
    (hU : Ra.1 = 0 → Rb.1 = 0 → al.length + bl.length ≤ 200 → La + Lb ≤ 200 → ∃ l, endsF (unionF al bl) (La + Lb) = some l ∧ PlOk (unionF al bl) l) :
    Calls Tryz.prog 15 #[.agg #[.slice A al.length capA, .int .i64 La], .int .i64 i, .agg #[.slice B bl.length capB, .int .i64 Lb], .int .i64 j] w (Quiet w) := by
  have HRA := hid hRa
  have HRB := hid hRb
  have HOA := hid (enterF_ok hRa)
  have HOB := hid (enterF_ok hRb)
  have HUU := hid hU
  clear hRa hRb hU
  obtain ⟨W, hW⟩ : ∃ W, W = ((w.alloc (.cells #[.slice A al.length capA, .int .i64 La] 24)).alloc (.cells #[.slice B bl.length capB, .int .i64 Lb] 24)).alloc (.cells #[.slice none 0 0, .int .i64 0] 24) := ⟨_, rfl⟩
  have hfW : Fr [] w W := by rw [hW]; exact ((Fr.alloc1 _ _).alloc _).alloc _
  have c0 : W.cell? ⟨w.heap.size, 0, none⟩ = some (.slice A al.length capA) := by rw [hW]; go_simp
  have c1 : W.cell? ⟨w.heap.size, 1, none⟩ = some (.int .i64 La) := by rw [hW]; go_simp
  have d0 : W.cell? ⟨w.heap.size + 1, 0, none⟩ = some (.slice B bl.length capB) := by rw [hW]; go_simp
  have d1 : W.cell? ⟨w.heap.size + 1, 1, none⟩ = some (.int .i64 Lb) := by rw [hW]; go_simp
  have g0 : W.cell? ⟨w.heap.size + 1 + 1, 0, none⟩ = some (.slice none 0 0) := by rw [hW]; go_simp
  have g1 : W.cell? ⟨w.heap.size + 1 + 1, 1, none⟩ = some (.int .i64 0) := by rw [hW]; go_simp
  have gf : ∀ i, W.frozen? ⟨w.heap.size + 1 + 1, i, none⟩ = false := fun i => by rw [hW]; go_simp
  have hs : w.heap.size + 1 + 1 < W.heap.size := by rw [hW]; simp
  have hs1 : w.heap.size + 1 < W.heap.size := by omega
  have hs0 : w.heap.size < W.heap.size := by omega
  go_enter Tryz.func15, Tryz.ntmps15
  go_wp2_with fail
  rw [← hW]
  clear hW
  refine (Union_any al bl A B capA capB La Lb W (hra.fr0 hfW) (hrb.fr0 hfW) Ra Rb HRA.out HRB.out).mono ?_
  rintro e w1 ⟨r, ⟨hf1, ⟨hr, rfl⟩ | ⟨rfl, A', c', rfl, hown⟩⟩, hr0⟩
  all_goals have f1 : Fr [] w w1 := hfW.trans hf1 (by simp)
  all_goals replace c0 := hf1.cell c0 (by simp)
  all_goals replace c1 := hf1.cell c1 (by simp)
  all_goals replace d0 := hf1.cell d0 (by simp)
  all_goals replace d1 := hf1.cell d1 (by simp)
  all_goals replace g0 := hf1.cell g0 (by simp)
  all_goals replace g1 := hf1.cell g1 (by simp)
  all_goals replace gf : ∀ i, w1.frozen? ⟨w.heap.size + 1 + 1, i, none⟩ = false := fun i => (hf1.frozenE (p := ⟨w.heap.size + 1 + 1, i, none⟩) hs (by simp)).trans (gf i)
  all_goals have HSW := hid (show w.heap.size + 1 + 1 < W.heap.size from hs)
  all_goals replace hs : w.heap.size + 1 + 1 < w1.heap.size := Nat.lt_of_lt_of_le hs hf1.size
  all_goals replace hs1 : w.heap.size + 1 < w1.heap.size := Nat.lt_of_lt_of_le hs1 hf1.size
  all_goals replace hs0 : w.heap.size < w1.heap.size := Nat.lt_of_lt_of_le hs0 hf1.size
  · have h0' : (r != 0) = true := by simpa using hr
    clear hr0
    go_wp2
    refine bodyPost_ret (v := .tuple #[.agg #[.slice none 0 0, .int .i64 0], .int .i64 r]) ?_ rfl (.of _ rfl ?_)
    · simp [results, Tryz.results15, go_sem, hs, g0, g1]
    · exact ((f1.setCell (.inr (by simp; omega)) _).setCell (.inr (by simp; omega)) _).alloc _
  · obtain ⟨hA0, hB0, hn, hL⟩ := hr0 rfl
    obtain ⟨n1, -, la0, la1⟩ := endsF_len (HOA.out hA0)
    obtain ⟨n2, -, lb0, lb1⟩ := endsF_len (HOB.out hB0)
    obtain ⟨l, hl, hpl⟩ := HUU.out hA0 hB0 hn hL
    have HL := hid hl
    have HPL := hid hpl
    clear hr0 hA0 hB0 hl hpl
    go_wp2_with fail
    obtain ⟨V, hV⟩ : ∃ V, V = w1.alloc (.cells #[.slice A' (unionF al bl).length c', .int .i64 (La + Lb)] 24) := ⟨_, rfl⟩
    obtain ⟨pu, hpu⟩ : ∃ p, p = w1.heap.size := ⟨_, rfl⟩
    have hW3 := HSW.out
    have hle := hf1.size
    have hSV : SumAt w al bl A B capA capB La Lb A' c' pu V := by
      rw [hV, hpu]
      have fa : Fr [] w1 (w1.alloc (.cells #[.slice A' (unionF al bl).length c', .int .i64 (La + Lb)] 24)) := Fr.alloc1 _ _
      exact {
        fr := f1.alloc _, c0 := fa.cell c0 (by simp), c1 := fa.cell c1 (by simp), d0 := fa.cell d0 (by simp), d1 := fa.cell d1 (by simp), g0 := fa.cell g0 (by simp), g1 := fa.cell g1 (by simp)
        gf := fun i => (fa.frozenE (p := ⟨w.heap.size + 1 + 1, i, none⟩) hs (by simp)).trans (gf i)
        v0 := by go_simp
        v1 := by go_simp
        vf := fun i => by go_simp
        own := (hown.alloc _).base (by omega)
        ne := fun a ha h => by have := (hown.addr a ha).2; omega
        pu0 := by omega
        lt := by simp }
    rw [← hV, ← hpu]
    clear hV hpu hle hW3 c0 c1 d0 d1 g0 g1 gf hown
    cases hti : thereF i al.length La
    · have HTI := hid hti
      clear hti
      refine (there_any i A al.length capA La (by omega) V).mono ?_
      rw [HTI.out]
      rintro e w2 ⟨rfl, hf2⟩
      have hS2 := hSV.to hf2
      have g0 := hS2.g0
      have g1 := hS2.g1
      have gf := hS2.gf
      have hs2 : w.heap.size + 1 + 1 < w2.heap.size := by have := hS2.lt; have := hS2.pu0; omega
      have hfw := hS2.fr
      clear hS2 hSV
      go_wp2
      refine bodyPost_ret (v := .tuple #[.agg #[.slice none 0 0, .int .i64 0], .int .i64 1]) ?_ rfl (.of _ rfl ?_)
      · simp [results, Tryz.results15, go_sem, hs2, g0, g1]
      · exact (hfw.setCell (.inr (by first | omega | (simp; done) | (simp; omega))) _).setCell (.inr (by first | omega | (simp; done) | (simp; omega))) _
    · have HTI := hid hti
      clear hti
      refine (there_any i A al.length capA La (by omega) V).mono ?_
      rw [HTI.out]
      rintro e w2 ⟨rfl, hf2⟩
      have hS2 := hSV.to hf2
      clear hSV
      have d0 := hS2.d0
      have d1 := hS2.d1
      have hs21 : w.heap.size + 1 < w2.heap.size := by have := hS2.lt; have := hS2.pu0; omega
      go_wp2_with fail
      clear d0 d1
      refine (there_any j B bl.length capB Lb (by omega) w2).mono ?_
      cases htj : thereF j bl.length Lb
      · have HTJ := hid htj
        clear htj
        rintro e w3 ⟨rfl, hf3⟩
        have hS3 := hS2.to hf3
        have g0 := hS3.g0
        have g1 := hS3.g1
        have gf := hS3.gf
        have hs2 : w.heap.size + 1 + 1 < w3.heap.size := by have := hS3.lt; have := hS3.pu0; omega
        have hfw := hS3.fr
        clear hS3 hS2
        go_wp2
        refine bodyPost_ret (v := .tuple #[.agg #[.slice none 0 0, .int .i64 0], .int .i64 1]) ?_ rfl (.of _ rfl ?_)
        · simp [results, Tryz.results15, go_sem, hs2, g0, g1]
        · exact (hfw.setCell (.inr (by first | omega | (simp; done) | (simp; omega))) _).setCell (.inr (by first | omega | (simp; done) | (simp; omega))) _
      · have HTJ := hid htj
        clear htj
        rintro e w3 ⟨rfl, hf3⟩
        have hS3 := hS2.to hf3
        have hq : i < 0 ∨ (0 ≤ i ∧ j < 0) ∨ (0 ≤ i ∧ i < 2 * (al.length : Int) ∧ 0 ≤ j ∧ j < 2 * (bl.length : Int)) := by
          have h1 := HTI.out
          have h2 := HTJ.out
          simp [thereF] at h1 h2
          omega
        rcases hq with h1 | ⟨h1, h2⟩ | ⟨h1, h2, h3, h4⟩
        iterate 2
          focus
            have g0 := hS3.g0
            have g1 := hS3.g1
            have gf := hS3.gf
            have v0 := hS3.v0
            have v1 := hS3.v1
            have vf := hS3.vf
            have hlt := hS3.lt
            have hpu0 := hS3.pu0
            have hs2 : w.heap.size + 1 + 1 < w3.heap.size := by omega
            have hne : w.heap.size + 1 + 1 ≠ pu := by omega
            have hne' : pu ≠ w.heap.size + 1 + 1 := by omega
            have hfw := hS3.fr
            clear hS3 hS2
            go_wp2
            refine bodyPost_ret (v := .tuple #[.agg #[.slice A' (unionF al bl).length c', .int .i64 (La + Lb - 1)], .int .i64 0]) ?_ rfl (.of _ rfl ?_)
            · simp [results, Tryz.results15, go_sem, hs2, g0, g1, hne, hne']
            · refine ((Fr.setCell ?_ (.inr ?_) _).setCell (.inr ?_) _)
              · exact hfw.setCell (.inr (by simp; omega)) _
              all_goals simp; omega
        obtain ⟨i, rfl⟩ := Int.eq_ofNat_of_zero_le h1
        obtain ⟨j, rfl⟩ := Int.eq_ofNat_of_zero_le h3
        have v0 := hS3.v0
        have v1 := hS3.v1
        have hlt := hS3.lt
        obtain ⟨hul, hll, -, -⟩ := endsF_len HL.out
        rw [unionF_len] at hll
        have hir : i < l.length := by omega
        have hjr : j + 2 * al.length < l.length := by omega
        obtain ⟨xb, xp, xc, xq, hxe, -, -, hxc, hxq⟩ := HPL.out i _ (List.getElem?_eq_getElem hir)
        obtain ⟨yb, yp, yc, yq, hye, -, -, hyc, hyq⟩ := HPL.out (j + 2 * al.length) _ (List.getElem?_eq_getElem hjr)
        have hx : l[i]? = some ⟨xb, xp, xc, xq⟩ := by rw [List.getElem?_eq_getElem hir, hxe]
        have hy : l[j + 2 * al.length]? = some ⟨yb, yp, yc, yq⟩ := by rw [List.getElem?_eq_getElem hjr, hye]
        have HX := hid hx
        have HY := hid hy
        have HUL := hid hul
        rw [unionF_len] at hxc hyc
        clear hx hy hxe hye hul
        go_wp2_with fail
        refine (ends_any (unionF al bl) A' c' (La + Lb) w3 hS3.own.rd).mono ?_; unfold EndsPost; rw [HL.out]; rintro e w4 ⟨hf4, Bq, rfl, hB⟩
        have hS4 := hS3.to hf4
        clear hS3 v0 v1 hlt hS2
        obtain ⟨b, off, rfl, hb, x0, x1, x2, x3⟩ := hB.ae HX.out
        obtain ⟨b', off', hbe, hb', y0, y1, y2, y3⟩ := hB.ae HY.out
        cases hbe
        have HB := hid hB
        have c0 := hS4.c0
        have v0 := hS4.v0
        have hlt := hS4.lt
        have hpu0 := hS4.pu0
        have hlt0 : w.heap.size < w4.heap.size := by omega
        clear hB x0 x1 y0 y1
        go_wp2
        go_cut [16, 17] (fun s16 s17 wx => ∃ px py, s16 = .pointer (some ⟨px, 0, none⟩) ∧ s17 = .pointer (some ⟨py, 0, none⟩) ∧ Fr [] w4 wx ∧ (wx.cell? ⟨px, 0, none⟩ = some (.int .i64 xc) ∧ wx.cell? ⟨px, 1, none⟩ = some (.int .i64 xq)) ∧ (wx.cell? ⟨py, 0, none⟩ = some (.int .i64 yc) ∧ wx.cell? ⟨py, 1, none⟩ = some (.int .i64 yq)) ∧ px < wx.heap.size ∧ py < wx.heap.size ∧ w4.heap.size ≤ px ∧ w4.heap.size ≤ py)
        case first =>
          go_region
          all_goals (go_wp2_with fail; go_meet; exact ⟨_, _, rfl, rfl, ((Fr.alloc1 _ _).alloc _).drew, ⟨by go_simp, by go_simp⟩, ⟨by go_simp, by go_simp⟩, by first | (simp; done) | (simp; omega), by first | (simp; done) | (simp; omega), by omega, by omega⟩)
        case rest =>
          obtain ⟨px, py, rfl, rfl, hf5, ⟨p0, p1⟩, ⟨p2, p3⟩, hpx, hpy, hpxg, hpyg⟩ := hcut
          have hown4 := hS4.own
          have hS5 := hS4.to hf5
          have v0 := hS5.v0
          have v1 := hS5.v1
          have hpu := hS5.lt
          have hown := hS5.own
          have hxl : xc * 5 + xq < (crCells (unionF al bl)).length := by rw [hown.len, unionF_len]; omega
          have hyl : yc * 5 + yq < (crCells (unionF al bl)).length := by rw [hown.len, unionF_len]; omega
          obtain ⟨g, rfl⟩ : ∃ g, A' = some ⟨g, 0, none⟩ := by
            rcases hown.form with ⟨_, h, _⟩ | h
            · rw [unionF_len] at h; omega
            · exact h
          have hg1 := (hown4.addr _ rfl).2
          have hg0 := (hown4.addr _ rfl).1
          have hg2 := (hown.addr _ rfl).2
          have hgp : g ≠ pu := hS5.ne _ rfl
          have g0 := hS5.g0
          have g1 := hS5.g1
          have gf := hS5.gf
          have ox := hown.cellAt (List.getElem?_eq_getElem hxl)
          have oy := hown.cellAt (List.getElem?_eq_getElem hyl)
          have fr := hown.frozen
          have hfw := hS5.fr
          simp only at hg0 hg1 hg2
          have n1 : g ≠ w.heap.size + 1 + 1 := by omega
          have n2 : g ≠ px := by omega
          have n3 : g ≠ py := by omega
          have n4 : pu ≠ w.heap.size + 1 + 1 := by omega
          have m2 : w.heap.size + 1 + 1 < wc.heap.size := by omega
          have hul2 : unionF al bl ≠ [] := by intro h; have := unionF_len al bl; rw [h] at this; simp at this; omega
          generalize (crCells (unionF al bl))[xc * 5 + xq] = ux at ox
          generalize (crCells (unionF al bl))[yc * 5 + yq] = uy at oy
          clear hxl hyl hown hown4 hS4 hS5 x2 x3 y2 y3 c0 hlt hlt0
          rw [unionF_len] at v0
          clear hb hb' hul2
          go_wp2
          go_region
          obtain ⟨wd, hwd⟩ : ∃ wd, wd = (wc.setCell ⟨g, xc * 5 + xq, none⟩ (.int .i64 ((j : Int) + 2 * al.length))).drew := ⟨_, rfl⟩
          have hfd : Fr [g] wc wd := by rw [hwd]; exact ((Fr.refl _ _).setCell (.inl (by simp)) _).drew
          have oy2 : ∃ uy2, wd.cell? ⟨g, yc * 5 + yq, none⟩ = some uy2 := by
            obtain ⟨u2, h2⟩ := cell?_setCell_some (p := ⟨g, xc * 5 + xq, none⟩) (x := .int .i64 ((j : Int) + 2 * al.length)) oy
            exact ⟨u2, by rw [hwd]; exact h2⟩
          have fr2 : ∀ i, wd.frozen? ⟨g, i, none⟩ = false := fun i => by rw [hwd]; simp [fr]
          rw [← hwd]
          clear hwd ox oy fr p0 p1
          obtain ⟨uy2, oy⟩ := oy2
          replace v0 := hfd.cell v0 (by simp; omega)
          replace v1 := hfd.cell v1 (by simp; omega)
          replace p2 := hfd.cell p2 (by simp; omega)
          replace p3 := hfd.cell p3 (by simp; omega)
          replace g0 := hfd.cell g0 (by simp; omega)
          replace g1 := hfd.cell g1 (by simp; omega)
          replace gf := fun i => (hfd.frozenE (p := ⟨w.heap.size + 1 + 1, i, none⟩) m2 (by simp; omega)).trans (gf i)
          replace hfw := hfw.trans (S' := [g]) hfd (by simp; omega)
          replace hg2 := Nat.lt_of_lt_of_le hg2 hfd.size
          replace m2 := Nat.lt_of_lt_of_le m2 hfd.size
          replace hpu := Nat.lt_of_lt_of_le hpu hfd.size
          replace hpy := Nat.lt_of_lt_of_le hpy hfd.size
          clear hfd hpx hf5
          go_wp2
          go_region
          have hfe : Fr [] w (wd.setCell ⟨g, yc * 5 + yq, none⟩ (.int .i64 i)).drew := (hfw.setCell (.inr (by simp; omega)) _).drew
          go_wp2
          refine bodyPost_ret (v := .tuple #[.agg #[.slice (some ⟨g, 0, none⟩) (al.length + bl.length) c', .int .i64 (La + Lb)], .int .i64 0]) ?_ rfl (.of _ rfl ?_)
          · simp [results, Tryz.results15, go_sem, m2, g0, g1, n1, n4, n4.symm, n1.symm]
          · exact (hfe.setCell (.inr (by simp; omega)) _).setCell (.inr (by simp; omega)) _
end Go.Proofs.YtjmgjkcjnjlpdaaGreatDoor

/-! ## L1 -/
namespace Go.Proofs.YtjmgjkcjnjlpdaaGreatDoor
open Go.RowKit
/-! ### what ends asks -/
section
variable {K V : Type} [DecidableEq K]
theorem findI_none {key : K} : ∀ {l : List (K × V)} {i : Nat}, findI key l i = none ↔ key ∉ l.map (·.1)
  | [], _ => by simp [findI]
  | p :: r, i => by
    unfold findI
    split
    · rename_i e; simp [e]
    · rename_i e
      rw [findI_none]
      simp only [List.map_cons, List.mem_cons, not_or]
      exact ⟨fun h => ⟨e, h⟩, fun h => h.2⟩
theorem aget_none {key : K} {l : List (K × V)} : aget l key = none ↔ key ∉ l.map (·.1) := by
  unfold aget; rw [Option.map_eq_none_iff]; exact findI_none
theorem aget_isSome {key : K} {l : List (K × V)} : (aget l key).isSome = true ↔ key ∈ l.map (·.1) := by
  cases h : aget l key with
  | none => have h' := h; rw [aget_none] at h'; simpa using h'
  | some v =>
    refine ⟨fun _ => ?_, fun _ => rfl⟩
    apply Classical.byContradiction
    intro hc
    have := aget_none.2 hc
    rw [h] at this; cases this
theorem aset_new {key : K} {l : List (K × V)} {v : V} (h : key ∉ l.map (·.1)) : aset l key v = l ++ [(key, v)] := by
  unfold aset; rw [findI_none.2 h]
theorem aget_mem {key : K} {l : List (K × V)} {v : V} (h : aget l key = some v) : (key, v) ∈ l := by
  unfold aget at h
  obtain ⟨p, h1, rfl⟩ := Option.map_eq_some_iff.1 h
  obtain ⟨j, _, hj⟩ := findI_some (l := l) (n := p.1) (v := p.2) (i := 0) h1
  exact List.mem_of_getElem? hj
omit [DecidableEq K] in
theorem nodup_fst {l : List (K × V)} (hn : (l.map (·.1)).Nodup) {k : K} {v v' : V} (h : (k, v) ∈ l) (h' : (k, v') ∈ l) : v = v' := by
  induction l with
  | nil => simp at h
  | cons p r ih =>
    simp only [List.map_cons, List.nodup_cons] at hn
    rcases List.mem_cons.1 h with e | h1 <;> rcases List.mem_cons.1 h' with e' | h2
    · rw [← e] at e'; exact (Prod.mk.inj e').2.symm
    · exact absurd (List.mem_map.2 ⟨_, h2, by rw [← e]⟩) hn.1
    · exact absurd (List.mem_map.2 ⟨_, h1, by rw [← e']⟩) hn.1
    · exact ih hn.2 h1 h2
theorem aget_of_mem {l : List (K × V)} (hn : (l.map (·.1)).Nodup) {k : K} {v : V} (h : (k, v) ∈ l) : aget l k = some v := by
  cases h1 : aget l k with
  | none => exact absurd (List.mem_map.2 ⟨_, h, rfl⟩) (aget_none.1 h1)
  | some v' => rw [nodup_fst hn h (aget_mem h1)]
end

def useP (i : Nat) (c : Cr) (ps : List Nat) : MU := ps.map fun p => ((c.arc p, outF c p), ((i : Int), (p : Int)))
def useC : List Cr → Nat → MU
  | [], _ => []
  | c :: r, i => useP i c [0, 1, 2, 3] ++ useC r (i + 1)

theorem endsP_iff {n i : Nat} {c : Cr} : ∀ {ps : List Nat} {m m' : MU}, (m.map (·.1)).Nodup →
    (endsP n i c ps m = some m' ↔ (∀ p ∈ ps, 0 ≤ c.arc p ∧ c.arc p < 2 * (n : Int)) ∧ ((m ++ useP i c ps).map (·.1)).Nodup ∧ m' = m ++ useP i c ps)
  | [], m, m', h => by
    simp only [endsP, useP, List.map_nil, List.append_nil, Option.some.injEq]
    exact ⟨fun e => ⟨by simp, h, e.symm⟩, fun e => e.2.2.symm⟩
  | p :: r, m, m', h => by
    unfold endsP
    have hm : m ++ useP i c (p :: r) = (m ++ [((c.arc p, outF c p), ((i : Int), (p : Int)))]) ++ useP i c r := by simp [useP]
    split
    · rename_i hc
      refine ⟨fun e => (by cases e), fun ⟨h1, h2, _⟩ => absurd hc ?_⟩
      have := h1 p (by simp)
      rw [aget_isSome]
      rintro (h3 | h3)
      · rw [hm, List.append_assoc, List.map_append, List.nodup_append] at h2
        exact h2.2.2 _ h3 _ (by simp) rfl
      · omega
    · rename_i hc
      rw [aget_isSome] at hc
      have hk : (c.arc p, outF c p) ∉ m.map (·.1) := fun h3 => hc (.inl h3)
      rw [aset_new hk]
      have hnd : ((m ++ [((c.arc p, outF c p), ((i : Int), (p : Int)))]).map (·.1)).Nodup := by
        rw [List.map_append, List.nodup_append]
        refine ⟨h, by simp, ?_⟩
        intro a ha b hb e
        simp at hb
        subst e; rw [hb] at ha; exact hk ha
      rw [endsP_iff hnd, ← hm]
      refine ⟨fun ⟨h1, h2⟩ => ⟨?_, h2⟩, fun ⟨h1, h2⟩ => ⟨fun q hq => h1 q (by simp [hq]), h2⟩⟩
      intro q hq
      rcases List.mem_cons.1 hq with rfl | hq
      · omega
      · exact h1 q hq

theorem CrOk.arc {n : Nat} {x : Cr} (h : CrOk n x) (p : Nat) : 0 ≤ x.arc p ∧ x.arc p < 2 * (n : Int) := by
  obtain ⟨_, _, _, _, _, _, _, _, _⟩ := h
  match p with
  | 0 => exact ⟨by assumption, by assumption⟩
  | 1 => exact ⟨by assumption, by assumption⟩
  | 2 => exact ⟨by assumption, by assumption⟩
  | _ + 3 => exact ⟨by assumption, by assumption⟩

theorem endsC_iff {n : Nat} : ∀ {cs : List Cr} {i : Nat} {m m' : MU}, (m.map (·.1)).Nodup →
    (endsC n cs i m = some m' ↔ (∀ x ∈ cs, CrOk n x) ∧ ((m ++ useC cs i).map (·.1)).Nodup ∧ m' = m ++ useC cs i)
  | [], i, m, m', h => by
    simp only [endsC, useC, List.append_nil, Option.some.injEq]
    exact ⟨fun e => ⟨by simp, h, e.symm⟩, fun e => e.2.2.symm⟩
  | c :: r, i, m, m', h => by
    constructor
    · intro he
      have hok := endsC_ok he
      refine ⟨hok, ?_⟩
      unfold endsC at he
      split at he
      · cases he
      · obtain ⟨m1, h1, h2⟩ := Option.bind_eq_some_iff.1 he
        obtain ⟨_, h4, rfl⟩ := (endsP_iff h).1 h1
        obtain ⟨_, h6, rfl⟩ := (endsC_iff h4).1 h2
        simp only [useC, ← List.append_assoc]
        exact ⟨h6, trivial⟩
    · rintro ⟨hok, h2, rfl⟩
      unfold endsC
      have hc := hok c (by simp)
      rw [if_neg (by have := hc.s; simp only [Bool.and_eq_true, bne_iff_ne]; omega)]
      simp only [useC, ← List.append_assoc] at h2 ⊢
      have h4 : ((m ++ useP i c [0, 1, 2, 3]).map (·.1)).Nodup := by
        rw [List.map_append, List.nodup_append] at h2
        exact h2.1
      rw [(endsP_iff (m' := m ++ useP i c [0, 1, 2, 3]) h).2 ⟨fun p _ => hc.arc p, h4, rfl⟩]
      exact (endsC_iff h4).2 ⟨fun x hx => hok x (by simp [hx]), h2, rfl⟩

/-- a sound diagram's crossings -/
structure Snd (cs : List Cr) : Prop where
  ok : ∀ x ∈ cs, CrOk cs.length x
  nd : ((useC cs 0).map (·.1)).Nodup

theorem endsF_iff {cs : List Cr} {L : Int} {l : List AE} : endsF cs L = some l ↔ cs.length ≤ 200 ∧ 0 ≤ L ∧ L ≤ 200 ∧ Snd cs ∧ l = (List.range (2 * cs.length)).map (aeOf (useC cs 0)) := by
  have key := fun m' => endsC_iff (n := cs.length) (cs := cs) (i := 0) (m := []) (m' := m') (by simp)
  simp only [List.nil_append] at key
  unfold endsF
  split
  · rename_i hc
    simp only [Bool.or_eq_true, decide_eq_true_eq] at hc
    exact ⟨fun e => (by cases e), fun h => absurd hc (by omega)⟩
  · rename_i hc
    simp only [Bool.or_eq_true, decide_eq_true_eq] at hc
    rw [Option.map_eq_some_iff]
    constructor
    · rintro ⟨m, h1, rfl⟩
      obtain ⟨h2, h3, rfl⟩ := (key m).1 h1
      exact ⟨by omega, by omega, by omega, ⟨h2, h3⟩, rfl⟩
    · rintro ⟨_, _, _, h, rfl⟩
      exact ⟨_, (key _).2 ⟨h.ok, h.nd, rfl⟩, rfl⟩
end Go.Proofs.YtjmgjkcjnjlpdaaGreatDoor

/-! ## L2 -/
namespace Go.Proofs.YtjmgjkcjnjlpdaaGreatDoor
open Go.RowKit
/-! ### places and arcs -/
theorem full {α : Type} [DecidableEq α] {l k : List α} (hn : l.Nodup) (hs : l ⊆ k) (hl : k.length ≤ l.length) : k ⊆ l := by
  intro x hx
  apply Classical.byContradiction
  intro hc
  have h := (List.nodup_cons.2 ⟨hc, hn⟩).length_le_of_subset (l₂ := k) (by intro y hy; rcases List.mem_cons.1 hy with rfl | hy; exact hx; exact hs hy)
  simp at h
  omega

theorem useC_len : ∀ (cs : List Cr) (i : Nat), (useC cs i).length = 4 * cs.length
  | [], _ => rfl
  | c :: r, i => by simp only [useC, useP, List.length_append, List.length_map, useC_len r, List.length_cons, List.length_nil]; omega

theorem useC_mem {a : Int} {o : Bool} {i p : Int} : ∀ {cs : List Cr} {s : Nat}, ((a, o), (i, p)) ∈ useC cs s ↔
    ∃ (j q : Nat) (x : Cr), cs[j]? = some x ∧ q < 4 ∧ i = ((s + j : Nat) : Int) ∧ p = (q : Int) ∧ a = x.arc q ∧ o = outF x q
  | [], s => by simp [useC]
  | c :: r, s => by
    simp only [useC, List.mem_append]
    rw [useC_mem]
    constructor
    · rintro (h | ⟨j, q, x, h1, h2, h3, h4⟩)
      · simp only [useP, List.mem_map] at h
        obtain ⟨q, hq, he⟩ := h
        simp only [Prod.mk.injEq] at he
        refine ⟨0, q, c, rfl, ?_, by simp [he.2.1], he.2.2.symm, he.1.1.symm, he.1.2.symm⟩
        simp at hq; omega
      · exact ⟨j + 1, q, x, by simpa using h1, h2, by omega, h4⟩
    · rintro ⟨j, q, x, h1, h2, h3, h4, h5, h6⟩
      match j with
      | 0 =>
        left
        simp at h1; subst h1
        simp only [useP, List.mem_map]
        exact ⟨q, by simp; omega, by simp [h3, h4, h5, h6]⟩
      | j + 1 => exact .inr ⟨j, q, x, by simpa using h1, h2, by omega, h4, h5, h6⟩

/-- the places of the arcs, and the arcs of the places -/
structure Arcs (cs : List Cr) (l : List AE) : Prop where
  len : l.length = 2 * cs.length
  rng : ∀ (i p : Nat) (x : Cr), cs[i]? = some x → 0 ≤ x.arc p ∧ x.arc p < 2 * (cs.length : Int)
  pl : ∀ a : Nat, a < 2 * cs.length → ∃ (bc bp ec ep : Nat) (xb xe : Cr), l[a]? = some ⟨bc, bp, ec, ep⟩ ∧ cs[bc]? = some xb ∧ bp < 4 ∧ xb.arc bp = a ∧ outF xb bp = true ∧
    cs[ec]? = some xe ∧ ep < 4 ∧ xe.arc ep = a ∧ outF xe ep = false
  isB : ∀ (i p : Nat) (x : Cr) (y : AE), cs[i]? = some x → p < 4 → outF x p = true → l[(x.arc p).toNat]? = some y → y.bc = i ∧ y.bp = p
  isE : ∀ (i p : Nat) (x : Cr) (y : AE), cs[i]? = some x → p < 4 → outF x p = false → l[(x.arc p).toNat]? = some y → y.ec = i ∧ y.ep = p

theorem Snd.get {cs : List Cr} (h : Snd cs) {a : Nat} (ha : a < 2 * cs.length) (o : Bool) : ∃ (j q : Nat) (x : Cr), aget (useC cs 0) ((a : Int), o) = some ((j : Int), (q : Int)) ∧ cs[j]? = some x ∧ q < 4 ∧ x.arc q = a ∧ outF x q = o := by
  have hsub : (useC cs 0).map (·.1) ⊆ (List.range (2 * cs.length)).flatMap (fun (a : Nat) => [((a : Int), true), ((a : Int), false)]) := by
    intro k hk
    obtain ⟨⟨⟨a, o⟩, ⟨i, p⟩⟩, h1, rfl⟩ := List.mem_map.1 hk
    obtain ⟨j, q, x, h2, h3, _, _, h6, h7⟩ := useC_mem.1 h1
    have h8 := (h.ok x (List.mem_of_getElem? h2)).arc q
    simp only [List.mem_flatMap, List.mem_range]
    refine ⟨a.toNat, by omega, ?_⟩
    rw [Int.toNat_of_nonneg (by omega)]
    cases o <;> simp
  have hfull := full h.nd hsub (by
    have hlen : ∀ n : Nat, ((List.range n).flatMap (fun (a : Nat) => [((a : Int), true), ((a : Int), false)])).length = 2 * n := by
      intro n; induction n with
      | zero => rfl
      | succ n ih => rw [List.range_succ, List.flatMap_append, List.length_append, ih]; simp; omega
    rw [hlen, List.length_map, useC_len]; omega)
  have hk : ((a : Int), o) ∈ (useC cs 0).map (·.1) := hfull (by
    simp only [List.mem_flatMap, List.mem_range]
    exact ⟨a, ha, by cases o <;> simp⟩)
  obtain ⟨⟨k, ⟨i, p⟩⟩, h1, h2⟩ := List.mem_map.1 hk
  simp only at h2; subst h2
  obtain ⟨j, q, x, h3, h4, rfl, rfl, h7, h8⟩ := useC_mem.1 h1
  exact ⟨j, q, x, by simpa using aget_of_mem h.nd h1, h3, h4, h7.symm, h8.symm⟩

theorem Snd.at {cs : List Cr} (h : Snd cs) {i p : Nat} {x : Cr} (hx : cs[i]? = some x) (hp : p < 4) : aget (useC cs 0) (x.arc p, outF x p) = some ((i : Int), (p : Int)) :=
  aget_of_mem h.nd (useC_mem.2 ⟨i, p, x, hx, hp, by simp, rfl, rfl, rfl⟩)

theorem Snd.arcs {cs : List Cr} (h : Snd cs) : Arcs cs ((List.range (2 * cs.length)).map (aeOf (useC cs 0))) where
  len := by simp
  rng i p x hx := (h.ok x (List.mem_of_getElem? hx)).arc p
  pl a ha := by
    obtain ⟨bc, bp, xb, h1, h2, h3, h4, h5⟩ := h.get ha true
    obtain ⟨ec, ep, xe, g1, g2, g3, g4, g5⟩ := h.get ha false
    refine ⟨bc, bp, ec, ep, xb, xe, ?_, h2, h3, h4, h5, g2, g3, g4, g5⟩
    rw [List.getElem?_map, List.getElem?_range ha]
    simp [aeOf, h1, g1]
  isB i p x y hx hp ho hy := by
    have hr := (h.ok x (List.mem_of_getElem? hx)).arc p
    rw [List.getElem?_map, List.getElem?_range (by omega)] at hy
    have := h.at hx hp
    rw [ho] at this
    simp only [Option.map_some, Option.some.injEq] at hy
    subst hy
    simp [aeOf, Int.toNat_of_nonneg hr.1, this]
  isE i p x y hx hp ho hy := by
    have hr := (h.ok x (List.mem_of_getElem? hx)).arc p
    rw [List.getElem?_map, List.getElem?_range (by omega)] at hy
    have := h.at hx hp
    rw [ho] at this
    simp only [Option.map_some, Option.some.injEq] at hy
    subst hy
    simp [aeOf, Int.toNat_of_nonneg hr.1, this]

theorem endsF_arcs {cs : List Cr} {L : Int} {l : List AE} (h : endsF cs L = some l) : Arcs cs l := by
  obtain ⟨_, _, _, h1, rfl⟩ := endsF_iff.1 h
  exact h1.arcs

theorem endsF_pl {cs : List Cr} {L : Int} {l : List AE} (h : endsF cs L = some l) : PlOk cs l := by
  have H := endsF_arcs h
  intro a y hy
  have ha : a < 2 * cs.length := by rw [← H.len]; exact (List.getElem?_eq_some_iff.1 hy).1
  obtain ⟨bc, bp, ec, ep, xb, xe, h1, h2, h3, _, _, h6, h7, _⟩ := H.pl a ha
  rw [h1] at hy; cases hy
  exact ⟨bc, bp, ec, ep, rfl, (List.getElem?_eq_some_iff.1 h2).1, h3, (List.getElem?_eq_some_iff.1 h6).1, h7⟩

/-! ### other, next, step -/
def Pl (n : Nat) (e : Nat × Nat) : Prop := e.1 < n ∧ e.2 < 4

theorem Arcs.other {cs : List Cr} {l : List AE} (H : Arcs cs l) {e : Nat × Nat} (he : Pl cs.length e) : ∃ e' : Nat × Nat, Pl cs.length e' ∧ otherF cs l e.1 e.2 = some ((e'.1 : Int), (e'.2 : Int)) ∧ otherF cs l e'.1 e'.2 = some ((e.1 : Int), (e.2 : Int)) := by
  obtain ⟨i, p⟩ := e
  obtain ⟨hi, hp⟩ := he
  simp only at hi hp ⊢
  have hx : cs[i]? = some cs[i] := List.getElem?_eq_getElem hi
  generalize cs[i] = x at hx
  obtain ⟨r0, r1⟩ := H.rng i p x hx
  obtain ⟨a, ha⟩ := Int.eq_ofNat_of_zero_le r0
  have ha2 : a < 2 * cs.length := by omega
  obtain ⟨bc, bp, ec, ep, xb, xe, h1, h2, h3, h4, h5, h6, h7, h8, h9⟩ := H.pl a ha2
  have hbc := (List.getElem?_eq_some_iff.1 h2).1
  have hec := (List.getElem?_eq_some_iff.1 h6).1
  have ta : (x.arc p).toNat = a := by omega
  have tb : (xb.arc bp).toNat = a := by omega
  have te : (xe.arc ep).toNat = a := by omega
  have hyb := fun y => H.isB i p x y hx hp
  have hye := fun y => H.isE i p x y hx hp
  rw [ta] at hyb hye
  have nbe : ¬ (((bc : Int) = ec) ∧ ((bp : Int) = ep)) := by
    rintro ⟨e1, e2⟩
    have e1 : bc = ec := by omega
    have e2 : bp = ep := by omega
    subst e1; subst e2
    rw [h2] at h6; cases h6
    rw [h5] at h9; cases h9
  cases ho : outF x p with
  | true =>
    obtain ⟨e1, e2⟩ := hyb _ ho h1
    simp only at e1 e2
    have e1 : bc = i := by omega
    have e2 : bp = p := by omega
    subst e1; subst e2
    refine ⟨(ec, ep), ⟨hec, h7⟩, ?_, ?_⟩
    · simp only [otherF, hx, ta, h1]
      rw [if_pos ⟨hp, r0⟩]; simp
    · simp only [otherF, h6, te, h1]
      rw [if_pos ⟨h7, by omega⟩]
      rw [if_neg nbe]
  | false =>
    obtain ⟨e1, e2⟩ := hye _ ho h1
    simp only at e1 e2
    have e1 : ec = i := by omega
    have e2 : ep = p := by omega
    subst e1; subst e2
    refine ⟨(bc, bp), ⟨hbc, h3⟩, ?_, ?_⟩
    · simp only [otherF, hx, ta, h1]
      rw [if_pos ⟨hp, r0⟩, if_neg nbe]
    · simp only [otherF, h2, tb, h1]
      rw [if_pos ⟨h3, by omega⟩]; simp

theorem Arcs.next {cs : List Cr} {l : List AE} (H : Arcs cs l) {a : Nat} (ha : a < 2 * cs.length) : ∃ b : Nat, b < 2 * cs.length ∧ nextF cs l a = some (b : Int) := by
  obtain ⟨bc, bp, ec, ep, xb, xe, h1, h2, h3, h4, h5, h6, h7, h8, h9⟩ := H.pl a ha
  obtain ⟨r0, r1⟩ := H.rng ec ((ep + 2) % 4) xe h6
  obtain ⟨b, hb⟩ := Int.eq_ofNat_of_zero_le r0
  refine ⟨b, by omega, ?_⟩
  unfold nextF
  simp only [h1]
  rw [if_pos ⟨by omega, by omega, by omega⟩]
  simp [h6, hb]

theorem Arcs.step {cs : List Cr} {l : List AE} (H : Arcs cs l) {e : Nat × Nat} (he : Pl cs.length e) : ∃ e', Pl cs.length e' ∧ stepF cs l e = some e' := by
  obtain ⟨e', h1, h2, _⟩ := H.other he
  refine ⟨(e'.1, (e'.2 + 3) % 4), ⟨h1.1, by simp; omega⟩, ?_⟩
  unfold stepF
  rw [h2]
  have := h1.2
  simp only
  rw [if_pos ⟨by omega, by omega, by omega⟩]
  simp

theorem Arcs.step_inj {cs : List Cr} {l : List AE} (H : Arcs cs l) {e f g : Nat × Nat} (he : Pl cs.length e) (hf : Pl cs.length f) (h1 : stepF cs l e = some g) (h2 : stepF cs l f = some g) : e = f := by
  obtain ⟨e', a1, a2, a3⟩ := H.other he
  obtain ⟨f', b1, b2, b3⟩ := H.other hf
  have a4 := a1.2
  have b4 := b1.2
  unfold stepF at h1 h2
  rw [a2] at h1
  rw [b2] at h2
  simp only at h1 h2
  rw [if_pos ⟨by omega, by omega, by omega⟩] at h1 h2
  simp only [Option.some.injEq, Int.toNat_natCast] at h1 h2
  obtain ⟨e1, e2⟩ := e'
  obtain ⟨f1, f2⟩ := f'
  subst h1
  simp only [Prod.mk.injEq] at h2
  simp only at *
  obtain ⟨h3, h4⟩ := h2
  have h5 : f2 = e2 := by omega
  subst h3; subst h5
  rw [a3] at b3
  simp only [Option.some.injEq, Prod.mk.injEq] at b3
  obtain ⟨i, p⟩ := e
  obtain ⟨j, q⟩ := f
  simp only at b3
  simp only [Prod.mk.injEq]
  omega
end Go.Proofs.YtjmgjkcjnjlpdaaGreatDoor

/-! ## L3 -/
namespace Go.Proofs.YtjmgjkcjnjlpdaaGreatDoor
open Go.RowKit
/-! ### orbits close -/
/-- the place after k steps -/
def stepN (cs : List Cr) (l : List AE) : Nat → Nat × Nat → Option (Nat × Nat)
  | 0, e => some e
  | k + 1, e => (stepF cs l e).bind (stepN cs l k)

theorem Arcs.stepN {cs : List Cr} {l : List AE} (H : Arcs cs l) : ∀ (k : Nat) {e : Nat × Nat}, Pl cs.length e → ∃ e', Pl cs.length e' ∧ stepN cs l k e = some e'
  | 0, e, he => ⟨e, he, rfl⟩
  | k + 1, e, he => by
    obtain ⟨e1, h1, h2⟩ := H.step he
    obtain ⟨e2, h3, h4⟩ := H.stepN k h1
    exact ⟨e2, h3, by simp [Go.Proofs.YtjmgjkcjnjlpdaaGreatDoor.stepN, h2, h4]⟩

theorem stepN_add {cs : List Cr} {l : List AE} : ∀ (j k : Nat) (e : Nat × Nat), stepN cs l (j + k) e = (stepN cs l j e).bind (stepN cs l k)
  | 0, k, e => by simp [stepN]
  | j + 1, k, e => by
    rw [show j + 1 + k = (j + k) + 1 by omega]
    simp only [stepN]
    cases stepF cs l e with
    | none => rfl
    | some e' => simp only [Option.bind_some]; exact stepN_add j k e'

theorem Arcs.stepN_inj {cs : List Cr} {l : List AE} (H : Arcs cs l) : ∀ (k : Nat) {e f g : Nat × Nat}, Pl cs.length e → Pl cs.length f → Go.Proofs.YtjmgjkcjnjlpdaaGreatDoor.stepN cs l k e = some g → Go.Proofs.YtjmgjkcjnjlpdaaGreatDoor.stepN cs l k f = some g → e = f
  | 0, e, f, g, _, _, h1, h2 => by simp only [Go.Proofs.YtjmgjkcjnjlpdaaGreatDoor.stepN, Option.some.injEq] at h1 h2; rw [h1, h2]
  | k + 1, e, f, g, he, hf, h1, h2 => by
    obtain ⟨e1, a1, a2⟩ := H.step he
    obtain ⟨f1, b1, b2⟩ := H.step hf
    simp only [Go.Proofs.YtjmgjkcjnjlpdaaGreatDoor.stepN, a2, b2, Option.bind_some] at h1 h2
    have := H.stepN_inj k a1 b1 h1 h2
    subst this
    exact H.step_inj he hf a2 b2

def places (n : Nat) : List (Nat × Nat) := (List.range n).flatMap fun i => [(i, 0), (i, 1), (i, 2), (i, 3)]
theorem places_mem {n : Nat} {e : Nat × Nat} : e ∈ places n ↔ Pl n e := by
  obtain ⟨i, p⟩ := e
  simp only [places, List.mem_flatMap, List.mem_range, List.mem_cons, Prod.mk.injEq, List.not_mem_nil, or_false, Pl]
  constructor
  · rintro ⟨j, h1, h2⟩; omega
  · rintro ⟨h1, h2⟩; exact ⟨i, h1, by omega⟩
theorem places_len (n : Nat) : (places n).length = 4 * n := by
  unfold places
  induction n with
  | zero => rfl
  | succ n ih => rw [List.range_succ, List.flatMap_append, List.length_append, ih]; simp; omega

theorem Arcs.returns {cs : List Cr} {l : List AE} (H : Arcs cs l) {e : Nat × Nat} (he : Pl cs.length e) : ∃ k, 1 ≤ k ∧ k ≤ 4 * cs.length ∧ Go.Proofs.YtjmgjkcjnjlpdaaGreatDoor.stepN cs l k e = some e := by
  apply Classical.byContradiction
  intro hc
  have hno : ∀ k, 1 ≤ k → k ≤ 4 * cs.length → Go.Proofs.YtjmgjkcjnjlpdaaGreatDoor.stepN cs l k e ≠ some e := fun k h1 h2 h3 => hc ⟨k, h1, h2, h3⟩
  have hnd : ((List.range (4 * cs.length + 1)).map fun k => (Go.Proofs.YtjmgjkcjnjlpdaaGreatDoor.stepN cs l k e).getD (0, 0)).Nodup := by
    rw [List.nodup_iff_pairwise_ne, List.pairwise_map]
    refine (List.pairwise_lt_range).imp_of_mem ?_
    intro j k hj hk hjk heq
    simp only [List.mem_range] at hj hk
    obtain ⟨ej, a1, a2⟩ := H.stepN j he
    obtain ⟨ek, b1, b2⟩ := H.stepN k he
    rw [a2, b2] at heq
    simp only [Option.getD_some] at heq
    subst heq
    obtain ⟨d, rfl⟩ : ∃ d, k = d + j := ⟨k - j, by omega⟩
    rw [stepN_add] at b2
    obtain ⟨f, c1, c2⟩ := H.stepN d he
    rw [c2] at b2
    simp only [Option.bind_some] at b2
    have := H.stepN_inj j c1 he b2 a2
    subst this
    exact hno d (by omega) (by omega) c2
  have := hnd.length_le_of_subset (l₂ := places cs.length) (by
    intro x hx
    obtain ⟨k, _, rfl⟩ := List.mem_map.1 hx
    obtain ⟨ek, b1, b2⟩ := H.stepN k he
    rw [b2]; exact places_mem.2 b1)
  rw [places_len] at this
  simp at this
  omega

theorem orbF_some {cs : List Cr} {l : List AE} {e0 : Nat × Nat} : ∀ (k f : Nat) (e : Nat × Nat), 1 ≤ k → k ≤ f → stepN cs l k e = some e0 → ∃ r, orbF cs l e0 f e = some r
  | 0, _, _, h, _, _ => by omega
  | k + 1, 0, _, _, h, _ => by omega
  | k + 1, f + 1, e, _, hf, h => by
    simp only [stepN] at h
    simp only [orbF]
    cases h1 : stepF cs l e with
    | none => rw [h1] at h; cases h
    | some e' =>
      rw [h1] at h
      simp only [Option.bind_some] at h
      simp only
      by_cases hq : e' = e0
      · simp [hq]
      · rw [if_neg hq]
        match k with
        | 0 => simp only [stepN, Option.some.injEq] at h; exact absurd h hq
        | k + 1 =>
          obtain ⟨r, hr⟩ := orbF_some (k + 1) f e' (by omega) (by omega) h
          exact ⟨e :: r, by rw [hr]; rfl⟩

theorem Arcs.orb {cs : List Cr} {l : List AE} (H : Arcs cs l) {e : Nat × Nat} (he : Pl cs.length e) : ∃ r, orbF cs l e (4 * cs.length + 1) e = some r := by
  obtain ⟨k, h1, h2, h3⟩ := H.returns he
  exact orbF_some k _ e h1 (by omega) h3

theorem orbF_head {cs : List Cr} {l : List AE} {e0 e : Nat × Nat} {f : Nat} {r : List (Nat × Nat)} (h : orbF cs l e0 f e = some r) : r[0]? = some e := by
  match f with
  | 0 => cases h
  | f + 1 =>
    simp only [orbF] at h
    split at h
    · cases h
    · split at h
      · cases h; rfl
      · obtain ⟨r', _, rfl⟩ := Option.map_eq_some_iff.1 h
        rfl

/-- regions, each with a head that is a place -/
def Heads (n : Nat) (rs : List (List (Nat × Nat))) : Prop := ∀ r ∈ rs, ∃ e, r[0]? = some e ∧ Pl n e

theorem Arcs.regsP {cs : List Cr} {l : List AE} (H : Arcs cs l) {i : Nat} (hi : i < cs.length) : ∀ (ps : List Nat) (m : MP) (rs : List (List (Nat × Nat))), (∀ p ∈ ps, p < 4) → Heads cs.length rs → ∃ m' rs', Go.Proofs.YtjmgjkcjnjlpdaaGreatDoor.regsP cs l i ps m rs = some (m', rs') ∧ Heads cs.length rs'
  | [], m, rs, _, h => ⟨m, rs, rfl, h⟩
  | p :: r, m, rs, hp, h => by
    unfold Go.Proofs.YtjmgjkcjnjlpdaaGreatDoor.regsP
    split
    · exact H.regsP hi r m rs (fun q hq => hp q (by simp [hq])) h
    · have he : Pl cs.length (i, p) := ⟨hi, hp p (by simp)⟩
      obtain ⟨reg, hr⟩ := H.orb he
      rw [hr]
      refine H.regsP hi r _ _ (fun q hq => hp q (by simp [hq])) ?_
      intro x hx
      rcases List.mem_append.1 hx with hx | hx
      · exact h x hx
      · simp at hx; subst hx; exact ⟨(i, p), orbF_head hr, he⟩

theorem Arcs.regsC {cs : List Cr} {l : List AE} (H : Arcs cs l) : ∀ (is : List Nat) (m : MP) (rs : List (List (Nat × Nat))), (∀ i ∈ is, i < cs.length) → Heads cs.length rs → ∃ rs', Go.Proofs.YtjmgjkcjnjlpdaaGreatDoor.regsC cs l is m rs = some rs' ∧ Heads cs.length rs'
  | [], m, rs, _, h => ⟨rs, rfl, h⟩
  | i :: r, m, rs, hi, h => by
    obtain ⟨m', rs', h1, h2⟩ := H.regsP (hi i (by simp)) [0, 1, 2, 3] m rs (by simp) h
    unfold Go.Proofs.YtjmgjkcjnjlpdaaGreatDoor.regsC
    rw [h1]
    exact H.regsC r m' rs' (fun j hj => hi j (by simp [hj])) h2

theorem Arcs.regions {cs : List Cr} {l : List AE} (H : Arcs cs l) : ∃ rs, regionsF cs l = some rs ∧ Heads cs.length rs :=
  H.regsC _ _ _ (by simp) (by intro r hr; simp at hr)

/-! ### the pieces -/
def negs (of : List Int) : Nat := of.countP (fun v => decide (v < 0))
theorem negs_le (of : List Int) : negs of ≤ of.length := List.countP_le_length
theorem negs_set {of : List Int} {i : Nat} {v : Int} {n : Nat} (h : of[i]? = some v) (hv : v < 0) : negs (of.set i n) + 1 = negs of := by
  have hi := (List.getElem?_eq_some_iff.1 h).1
  have he : of[i] = v := (List.getElem?_eq_some_iff.1 h).2
  unfold negs
  rw [List.countP_set hi, he]
  have hpos : 0 < of.countP (fun v => decide (v < 0)) := List.countP_pos_iff.2 ⟨v, he ▸ List.getElem_mem hi, by simpa using hv⟩
  have hn : ¬ ((n : Int) < 0) := by omega
  simp [hv, hn]
  omega

/-- set numbers stay; new ones are n -/
def Kept (n : Nat) (of of' : List Int) : Prop := of'.length = of.length ∧ (∀ (i : Nat) (v : Int), of[i]? = some v → 0 ≤ v → of'[i]? = some v) ∧ (∀ (i : Nat) (v : Int), of'[i]? = some v → of[i]? = some v ∨ v = n)
theorem Kept.rfl {n : Nat} {of : List Int} : Kept n of of := ⟨Eq.refl _, fun _ _ h _ => h, fun _ _ h => .inl h⟩
theorem Kept.trans {n : Nat} {a b c : List Int} (h : Kept n a b) (g : Kept n b c) : Kept n a c :=
  ⟨g.1.trans h.1, fun i v e hv => g.2.1 i v (h.2.1 i v e hv) hv, fun i v e => (g.2.2 i v e).elim (h.2.2 i v) .inr⟩
theorem Kept.set {n : Nat} {of : List Int} {i : Nat} {v : Int} (h : of[i]? = some v) (hv : v < 0) : Kept n of (of.set i n) := by
  refine ⟨by simp, ?_, ?_⟩
  · intro j u hj hu
    rw [List.getElem?_set_ne]
    · exact hj
    · rintro e; subst e; rw [h] at hj; cases hj; omega
  · intro j u hj
    by_cases e : i = j
    · subst e
      rw [List.getElem?_set_self (by exact (List.getElem?_eq_some_iff.1 h).1)] at hj
      exact .inr (by simpa using hj.symm)
    · rw [List.getElem?_set_ne e] at hj; exact .inl hj

theorem Arcs.bfsP {cs : List Cr} {l : List AE} (H : Arcs cs l) {n q : Nat} (hq : q < cs.length) : ∀ (ps : List Nat) (of : List Int) (qu : List Nat), (∀ p ∈ ps, p < 4) → of.length = cs.length → (∀ x ∈ qu, x < cs.length) →
    ∃ of' ex, Go.Proofs.YtjmgjkcjnjlpdaaGreatDoor.bfsP cs l n q ps of qu = some (of', qu ++ ex) ∧ Kept n of of' ∧ (∀ x ∈ qu ++ ex, x < cs.length) ∧ negs of' + ex.length = negs of
  | [], of, qu, _, ho, hx => ⟨of, [], by simp [Go.Proofs.YtjmgjkcjnjlpdaaGreatDoor.bfsP], Kept.rfl, by simpa using hx, by simp⟩
  | p :: r, of, qu, hp, ho, hx => by
    obtain ⟨e, h1, h2, _⟩ := H.other (e := (q, p)) ⟨hq, hp p (by simp)⟩
    have he : e.1 < of.length := by rw [ho]; exact h1.1
    have hg : of[e.1]? = some of[e.1] := List.getElem?_eq_getElem he
    generalize of[e.1] = v at hg
    unfold Go.Proofs.YtjmgjkcjnjlpdaaGreatDoor.bfsP
    simp only at h2
    rw [h2]
    simp only [Int.toNat_natCast, hg]
    rw [if_pos (by omega)]
    by_cases hv : v < 0
    · rw [if_pos hv]
      obtain ⟨of', ex, g1, g2, g3, g4⟩ := H.bfsP (n := n) hq r (of.set e.1 n) (qu ++ [e.1]) (fun x hx => hp x (by simp [hx])) (by simpa using ho) (by
        intro x hxx
        rcases List.mem_append.1 hxx with h | h
        · exact hx x h
        · simp at h; subst h; exact h1.1)
      refine ⟨of', e.1 :: ex, by simpa using g1, (Kept.set hg hv).trans g2, by simpa using g3, ?_⟩
      have := negs_set (n := n) hg hv
      simp only [List.length_cons]
      omega
    · rw [if_neg hv]
      exact H.bfsP hq r of qu (fun x hx => hp x (by simp [hx])) ho hx

theorem Arcs.bfsQ {cs : List Cr} {l : List AE} (H : Arcs cs l) {n : Nat} : ∀ (f k : Nat) (of : List Int) (qu : List Nat), of.length = cs.length → (∀ x ∈ qu, x < cs.length) → k ≤ qu.length → negs of + qu.length < f + k →
    ∃ of', Go.Proofs.YtjmgjkcjnjlpdaaGreatDoor.bfsQ cs l n f k of qu = some of' ∧ Kept n of of'
  | 0, k, of, qu, _, _, hk, hf => by omega
  | f + 1, k, of, qu, ho, hx, hk, hf => by
    unfold Go.Proofs.YtjmgjkcjnjlpdaaGreatDoor.bfsQ
    cases hq : qu[k]? with
    | none => exact ⟨of, rfl, Kept.rfl⟩
    | some q =>
      have hk' := (List.getElem?_eq_some_iff.1 hq).1
      obtain ⟨of', ex, g1, g2, g3, g4⟩ := H.bfsP (n := n) (hx q (List.mem_of_getElem? hq)) [0, 1, 2, 3] of qu (by simp) ho hx
      simp only [g1, Option.bind_some]
      obtain ⟨of2, k1, k2⟩ := H.bfsQ (n := n) f (k + 1) of' (qu ++ ex) (by rw [g2.1, ho]) g3 (by simp; omega) (by simp; omega)
      exact ⟨of2, k1, g2.trans k2⟩

theorem Arcs.pcs {cs : List Cr} {l : List AE} (H : Arcs cs l) : ∀ (is : List Nat) (of : List Int) (n : Nat), (∀ i ∈ is, i < cs.length) → of.length = cs.length → (∀ (i : Nat) (v : Int), of[i]? = some v → v < n) →
    ∃ of' n', Go.Proofs.YtjmgjkcjnjlpdaaGreatDoor.pcs cs l is of n = some (of', n') ∧ of'.length = cs.length ∧ (∀ (i : Nat) (v : Int), of'[i]? = some v → v < n') ∧ (∀ (i : Nat) (v : Int), of[i]? = some v → 0 ≤ v → of'[i]? = some v) ∧ (∀ i ∈ is, ∃ v : Int, of'[i]? = some v ∧ 0 ≤ v)
  | [], of, n, _, ho, hb => ⟨of, n, rfl, ho, hb, fun _ _ h _ => h, by simp⟩
  | i :: r, of, n, hi, ho, hb => by
    have hil : i < of.length := by rw [ho]; exact hi i (by simp)
    have hg : of[i]? = some of[i] := List.getElem?_eq_getElem hil
    generalize of[i] = v at hg
    unfold Go.Proofs.YtjmgjkcjnjlpdaaGreatDoor.pcs
    rw [hg]
    simp only
    by_cases hv : 0 ≤ v
    · rw [if_pos hv]
      obtain ⟨of', n', h1, h2, h3, h4, h5⟩ := H.pcs r of n (fun x hx => hi x (by simp [hx])) ho hb
      refine ⟨of', n', h1, h2, h3, h4, ?_⟩
      intro j hj
      rcases List.mem_cons.1 hj with rfl | hj
      · exact ⟨v, h4 _ v hg hv, hv⟩
      · exact h5 j hj
    · rw [if_neg hv]
      have hk := Kept.set (n := n) hg (by omega)
      have hc := negs_set (n := n) hg (by omega)
      have := negs_le of
      obtain ⟨of1, g1, g2⟩ := H.bfsQ (n := n) (cs.length + 1) 0 (of.set i n) [i] (by simpa using ho) (by simpa using hi i (by simp)) (by simp) (by simp; omega)
      rw [g1]
      simp only [Option.bind_some]
      have hkk := hk.trans g2
      obtain ⟨of', n', h1, h2, h3, h4, h5⟩ := H.pcs r of1 (n + 1) (fun x hx => hi x (by simp [hx])) (by rw [hkk.1, ho]) (by
        intro j u hj
        rcases hkk.2.2 j u hj with h | h
        · have := hb j u h; omega
        · omega)
      refine ⟨of', n', h1, h2, h3, fun j u e hu => h4 j u (hkk.2.1 j u e hu) hu, ?_⟩
      intro j hj
      rcases List.mem_cons.1 hj with rfl | hj
      · have h6 : (of.set j (n : Int))[j]? = some (n : Int) := List.getElem?_set_self hil
        exact ⟨n, h4 j n (g2.2.1 j n h6 (by omega)) (by omega), by omega⟩
      · exact h5 j hj

theorem Arcs.pieces {cs : List Cr} {l : List AE} (H : Arcs cs l) : ∃ of n, piecesF cs l = some (of, n) ∧ of.length = cs.length ∧ ∀ (i : Nat) (v : Int), of[i]? = some v → 0 ≤ v ∧ v < n := by
  obtain ⟨of, n, h1, h2, h3, _, h5⟩ := H.pcs (List.range cs.length) (List.replicate cs.length (-1)) 0 (by simp) (by simp) (by
    intro i v h
    have := List.mem_of_getElem? h
    simp at this
    omega)
  refine ⟨of, n, h1, h2, ?_⟩
  intro i v h
  refine ⟨?_, h3 i v h⟩
  obtain ⟨u, h6, h7⟩ := h5 i (by have := (List.getElem?_eq_some_iff.1 h).1; simp; omega)
  rw [h] at h6; cases h6; exact h7
end Go.Proofs.YtjmgjkcjnjlpdaaGreatDoor

/-! ## L4 -/
namespace Go.Proofs.YtjmgjkcjnjlpdaaGreatDoor
open Go.RowKit
/-! ### the components -/
theorem Arcs.compB {cs : List Cr} {l : List AE} (H : Arcs cs l) {n : Nat} : ∀ (f b : Nat) (of : List Int), b < 2 * cs.length → of.length = l.length → negs of < f → ∃ of', Go.Proofs.YtjmgjkcjnjlpdaaGreatDoor.compB cs l n f b of = some of'
  | 0, _, _, _, _, h => by omega
  | f + 1, b, of, hb, ho, hf => by
    have hg : of[b]? = some (of[b]'(by rw [ho, H.len]; exact hb)) := List.getElem?_eq_getElem _
    generalize of[b]'(by rw [ho, H.len]; exact hb) = v at hg
    obtain ⟨b', h1, h2⟩ := H.next hb
    unfold Go.Proofs.YtjmgjkcjnjlpdaaGreatDoor.compB
    rw [hg]
    simp only [h2]
    by_cases hv : v < 0
    · rw [if_pos hv, if_pos (by omega)]
      have := negs_set (n := n) hg hv
      exact H.compB f b' _ h1 (by simpa using ho) (by omega)
    · rw [if_neg hv]; exact ⟨of, rfl⟩

theorem Arcs.comps {cs : List Cr} {l : List AE} (H : Arcs cs l) : ∀ (is : List Nat) (of : List Int) (n : Nat), (∀ i ∈ is, i < l.length) → of.length = l.length → ∃ R, Go.Proofs.YtjmgjkcjnjlpdaaGreatDoor.comps cs l is of n = some R
  | [], of, n, _, _ => ⟨(of, n), rfl⟩
  | a :: r, of, n, hi, ho => by
    have ha := hi a (by simp)
    have hg : of[a]? = some (of[a]'(by rw [ho]; exact ha)) := List.getElem?_eq_getElem _
    generalize of[a]'(by rw [ho]; exact ha) = v at hg
    unfold Go.Proofs.YtjmgjkcjnjlpdaaGreatDoor.comps
    rw [hg]
    simp only
    by_cases hv : 0 ≤ v
    · rw [if_pos hv]; exact H.comps r of n (fun x hx => hi x (by simp [hx])) ho
    · rw [if_neg hv]
      have := negs_le of
      obtain ⟨of', h1⟩ := H.compB (n := n) (l.length + 1) a of (by rw [← H.len]; exact ha) ho (by omega)
      rw [h1]
      have hk := compB_keeps h1
      exact H.comps r of' (n + 1) (fun x hx => hi x (by simp [hx])) (by rw [hk.1, ho])

theorem Arcs.components {cs : List Cr} {l : List AE} (H : Arcs cs l) : ∃ of n, componentsF cs l = some (of, n) := by
  obtain ⟨R, h⟩ := H.comps (List.range l.length) (List.replicate l.length (-1)) 0 (by simp) (by simp)
  exact ⟨R.1, R.2, h⟩

/-! ### enter answers -/
theorem addL_some : ∀ (ks lf : List Int), (∀ k ∈ ks, 0 ≤ k ∧ k < lf.length) → ∃ lf', addL ks lf = some lf' ∧ lf'.length = lf.length
  | [], lf, _ => ⟨lf, rfl, rfl⟩
  | k :: r, lf, h => by
    obtain ⟨h1, h2⟩ := h k (by simp)
    have hg : lf[k.toNat]? = some (lf[k.toNat]'(by omega)) := List.getElem?_eq_getElem _
    generalize lf[k.toNat]'(by omega) = v at hg
    unfold addL
    rw [if_pos h1, hg]
    obtain ⟨lf', g1, g2⟩ := addL_some r (lf.set k.toNat (wrap64 (v + 1))) (fun x hx => by simpa using h x (by simp [hx]))
    exact ⟨lf', g1, by simpa using g2⟩

theorem subL_some {of : List Int} {n : Nat} : ∀ (rs : List (List (Nat × Nat))) (lf : List Int), Heads n rs → of.length = n → (∀ (i : Nat) (v : Int), of[i]? = some v → 0 ≤ v ∧ v < lf.length) → ∃ lf', subL of rs lf = some lf'
  | [], lf, _, _, _ => ⟨lf, rfl⟩
  | r :: rs, lf, h, ho, hb => by
    obtain ⟨e, h1, h2⟩ := h r (by simp)
    have hg : of[e.1]? = some (of[e.1]'(by rw [ho]; exact h2.1)) := List.getElem?_eq_getElem _
    generalize of[e.1]'(by rw [ho]; exact h2.1) = k at hg
    obtain ⟨k0, k1⟩ := hb _ _ hg
    have hg2 : lf[k.toNat]? = some (lf[k.toNat]'(by omega)) := List.getElem?_eq_getElem _
    generalize lf[k.toNat]'(by omega) = v at hg2
    unfold subL
    simp only [h1, hg, hg2]
    rw [if_pos k0]
    exact subL_some rs _ (fun x hx => h x (by simp [hx])) ho (fun i v hi => by simpa using hb i v hi)

theorem enterF_total (cs : List Cr) (L : Int) : ∃ R, enterF cs L = some R := by
  unfold enterF
  cases he : endsF cs L with
  | none => exact ⟨_, rfl⟩
  | some l =>
    have H := endsF_arcs he
    obtain ⟨of, n, h1, h2, h3⟩ := H.pieces
    obtain ⟨l1, h4, h5⟩ := addL_some of (List.replicate n 2) (fun k hk => by
      obtain ⟨i, hi⟩ := List.getElem?_of_mem hk
      simpa using h3 i k hi)
    obtain ⟨rs, h6, h7⟩ := H.regions
    obtain ⟨l2, h8⟩ := subL_some rs l1 h7 h2 (fun i v hi => by rw [h5]; simpa using h3 i v hi)
    simp only [h1, h4, h6, h8, Option.bind_some]
    exact ⟨_, rfl⟩

/-! ### the union -/
theorem shF_arc (k : Int) (x : Cr) (p : Nat) : (shF k x).arc p = x.arc p + k := by
  match p with
  | 0 => rfl
  | 1 => rfl
  | 2 => rfl
  | _ + 3 => rfl
theorem outF_sh (k : Int) (x : Cr) (p : Int) : outF (shF k x) p = outF x p := rfl

theorem useC_append : ∀ (al bl : List Cr) (i : Nat), useC (al ++ bl) i = useC al i ++ useC bl (i + al.length)
  | [], bl, i => by simp [useC]
  | c :: r, bl, i => by
    simp only [List.cons_append, useC, List.append_assoc, useC_append r bl (i + 1), List.length_cons]
    rw [show i + 1 + r.length = i + (r.length + 1) by omega]

theorem useC_sh (k : Int) : ∀ (bl : List Cr) (i j : Nat), (useC (bl.map (shF k)) i).map (·.1) = ((useC bl j).map (·.1)).map fun u => (u.1 + k, u.2)
  | [], _, _ => rfl
  | c :: r, i, j => by
    simp only [List.map_cons, useC, List.map_append, useC_sh k r (i + 1) (j + 1)]
    simp [useP, shF_arc, outF_sh]

theorem CrOk.up {n m : Nat} {x : Cr} (h : CrOk n x) (hm : n ≤ m) : CrOk m x := by
  obtain ⟨_, _, _, _, _, _, _, _, _⟩ := h
  constructor <;> omega
theorem CrOk.sh {n m : Nat} {x : Cr} (h : CrOk n x) : CrOk (m + n) (shF (2 * m) x) := by
  obtain ⟨_, _, _, _, _, _, _, _, _⟩ := h
  constructor <;> simp only [shF] <;> omega

theorem Snd.union {al bl : List Cr} (ha : Snd al) (hb : Snd bl) : Snd (unionF al bl) where
  ok x hx := by
    rw [unionF_len]
    rcases List.mem_append.1 hx with h | h
    · exact (ha.ok x h).up (by omega)
    · obtain ⟨y, hy, rfl⟩ := List.mem_map.1 h
      exact (hb.ok y hy).sh
  nd := by
    unfold unionF
    rw [useC_append, List.map_append, useC_sh _ bl _ 0, List.nodup_append]
    refine ⟨ha.nd, ?_, ?_⟩
    · rw [List.nodup_iff_pairwise_ne, List.pairwise_map]
      refine (List.nodup_iff_pairwise_ne.1 hb.nd).imp ?_
      rintro ⟨a, o⟩ ⟨b, q⟩ hne heq
      apply hne
      simp only [Prod.mk.injEq] at heq ⊢
      exact ⟨by omega, heq.2⟩
    · intro u hu v hv heq
      subst heq
      obtain ⟨⟨⟨a, o⟩, ⟨i, p⟩⟩, h1, rfl⟩ := List.mem_map.1 hu
      obtain ⟨j, q, x, h2, h3, _, _, h6, h7⟩ := useC_mem.1 h1
      have h8 := (ha.ok x (List.mem_of_getElem? h2)).arc q
      obtain ⟨u, hu2, h9⟩ := List.mem_map.1 hv
      obtain ⟨⟨⟨b, o'⟩, ⟨i', p'⟩⟩, g1, rfl⟩ := List.mem_map.1 hu2
      obtain ⟨j', q', x', g2, g3, _, _, g6, g7⟩ := useC_mem.1 g1
      have g8 := (hb.ok x' (List.mem_of_getElem? g2)).arc q'
      simp only [Prod.mk.injEq] at h9
      omega

theorem endsF_union {al bl : List Cr} {La Lb : Int} {la lb : List AE} (ha : endsF al La = some la) (hb : endsF bl Lb = some lb) (hn : al.length + bl.length ≤ 200) (hL : La + Lb ≤ 200) : ∃ l, endsF (unionF al bl) (La + Lb) = some l := by
  obtain ⟨_, a1, _, a2, _⟩ := endsF_iff.1 ha
  obtain ⟨_, b1, _, b2, _⟩ := endsF_iff.1 hb
  exact ⟨_, endsF_iff.2 ⟨by rw [unionF_len]; exact hn, by omega, hL, a2.union b2, rfl⟩⟩
end Go.Proofs.YtjmgjkcjnjlpdaaGreatDoor
