/- sphenoidlaw22.DiagStays: a part of its proof: walks of the functions that it comes to, and plain laws (D10, D11, D12, D13, D14). -/
import Derived.Test.YtjmgjkcjnjlpdaaGreatDoorMc
import Derived.Deep.LoopGhost
import Derived.Test.YtjmgjkcjnjlpdaaGreatDoorMa
import Derived.BigRegion
set_option linter.unusedVariables false
set_option linter.unusedSimpArgs false
set_option linter.unusedSectionVars false
/-! ## D10 -/
namespace Go.Proofs.YtjmgjkcjnjlpdaaGreatDoor
open Go.RowKit

def compB (cs : List Cr) (l : List AE) (n : Nat) : Nat → Nat → List Int → Option (List Int)
  | 0, _, _ => none
  | f + 1, b, of =>
    match of[b]? with
    | none => none
    | some v => if v < 0 then
        match nextF cs l b with
        | none => none
        | some b' => if 0 ≤ b' then compB cs l n f b'.toNat (of.set b n) else none
      else some of

def comps (cs : List Cr) (l : List AE) : List Nat → List Int → Nat → Option (List Int × Nat)
  | [], of, n => some (of, n)
  | a :: r, of, n =>
    match of[a]? with
    | none => none
    | some v => if 0 ≤ v then comps cs l r of n else (compB cs l n (l.length + 1) a of).bind fun of' => comps cs l r of' (n + 1)

def componentsF (cs : List Cr) (l : List AE) : Option (List Int × Nat) := comps cs l (List.range l.length) (List.replicate l.length (-1)) 0

theorem comps_le {cs : List Cr} {l : List AE} : ∀ {is : List Nat} {of0 : List Int} {m : Nat} {of : List Int} {n : Nat}, comps cs l is of0 m = some (of, n) → m ≤ n ∧ n ≤ m + is.length
  | [], of0, m, of, n, h => by cases h; simp
  | i :: r, of0, m, of, n, h => by
    simp only [comps] at h
    split at h
    · cases h
    · split at h
      · have := comps_le h; simp; omega
      · obtain ⟨of', _, h2⟩ := Option.bind_eq_some_iff.1 h
        have := comps_le h2; simp; omega

set_option maxHeartbeats 1000000 in
set_option maxRecDepth 100000 in
theorem components_any {w : World} {p : Nat} {A cap cs L B capB l} (h : DiagAt w p A cap cs L B capB l) (hl4 : l.length ≤ 400) (of : List Int) (n : Nat) (hr : componentsF cs l = some (of, n)) :
    Calls Tryz.prog 24 #[.pointer (some ⟨p, 0, none⟩)] w fun e w' =>
      e = .returned (.tuple #[.slice (some ⟨w.heap.size, 0, none⟩) l.length l.length, .int .i64 n]) ∧ Fr [] w w' ∧ RowAt w' w.heap.size 3 (ints of) ∧ of.length = l.length := by
  have HR := hid hr
  clear hr
  have hmk := fun W => run_make_ints (P := Tryz.prog) 25 3 (by kernel_rfl) (by kernel_rfl) (l.length : Int) l.length (by omega) (by omega) W
  have d0 := h.c2
  have hp := h.lt
  go_enter Tryz.func24, Tryz.ntmps24
  go_wp2
  go_loopw [17] (fun i wr => ∃ (a : Nat), a ≤ l.length ∧ i = .int .i64 a ∧ Fr [] w wr ∧ RowAt wr w.heap.size 3 (ints ((List.range a).map (fun _ => (-1 : Int)) ++ List.replicate (l.length - a) 0))) (fun i _ => l.length - (intOf i).toNat)
  case atStart =>
    refine ⟨0, by omega, rfl, Fr.alloc1 _ _, ?_⟩
    have := RowAt.new w 3 (ints (List.replicate l.length (0 : Int)))
    simpa using this
  case round =>
    obtain ⟨a, ha, rfl, hf, hrow⟩ := hrel
    by_cases hlt : a < l.length
    · have hz : ((List.range a).map (fun _ => (-1 : Int)) ++ List.replicate (l.length - a) 0)[a]? = some 0 := by
        rw [List.getElem?_append_right (by simp), List.length_map, List.length_range, Nat.sub_self, List.getElem?_replicate, if_pos (by omega)]
      have s0 : wr.cell? ⟨w.heap.size, a, none⟩ = some (.int .i64 0) := by rw [hrow.cell]; exact ints_get hz
      have fz := fun i => hrow.frozen i
      clear hz
      go_wp2
      go_roundw
      case rel =>
        refine ⟨a + 1, by omega, by go_num, hf.setCell (.inr (by simp)) _, ?_⟩
        have := hrow.set a (.int .i64 (-1))
        rw [ints_set, set_fill (fun _ => (-1 : Int)) _ _ _ hlt] at this
        exact this
      case measure => simp [intOf]; omega
    · obtain rfl : a = l.length := by omega
      have e1 : (List.range l.length).map (fun _ => (-1 : Int)) ++ List.replicate (l.length - l.length) 0 = List.replicate l.length (-1) := by
        simp [List.map_const']
      rw [e1] at hrow
      clear e1
      go_wp2
      go_loopw [26, 6] (fun iv nv wr => ∃ (i m : Nat) (of' : List Int), i ≤ l.length ∧ m ≤ i ∧ iv = .int .i64 i ∧ nv = .int .i64 m ∧ comps cs l (List.range' i (l.length - i)) of' m = some (of, n) ∧
          Fr [] w wr ∧ RowAt wr w.heap.size 3 (ints of') ∧ of'.length = l.length) (fun iv _ _ => l.length - (intOf iv).toNat)
      case atStart =>
        refine ⟨0, 0, List.replicate l.length (-1), by omega, by omega, rfl, rfl, ?_, hf, hrow, by simp⟩
        have := HR.out
        unfold componentsF at this
        rw [List.range_eq_range'] at this
        exact this
      case round =>
        obtain ⟨i, m, of', hi, hm, rfl, rfl, hP, hf2, hrow2, hlen⟩ := hrel
        clear hf hrow
        by_cases hlt2 : i < l.length
        · have el : List.range' i (l.length - i) = i :: List.range' (i + 1) (l.length - (i + 1)) := by
            rw [show l.length - i = (l.length - (i + 1)) + 1 by omega]; rfl
          rw [el] at hP
          clear el
          obtain ⟨v, hv⟩ : ∃ v, of'[i]? = some v := ⟨_, List.getElem?_eq_getElem (by omega)⟩
          simp only [comps, hv] at hP
          have s0 : wr.cell? ⟨w.heap.size, i, none⟩ = some (.int .i64 v) := by rw [hrow2.cell]; exact ints_get hv
          have fz := fun i => hrow2.frozen i
          by_cases hv0 : 0 ≤ v
          · rw [if_pos hv0] at hP
            have HP := hid hP
            have HL := hid hlen
            clear hP hv hlen
            go_wp2
            go_roundw
            case rel => exact ⟨i + 1, m, of', by omega, by omega, by go_num, rfl, HP.out, hf2, hrow2, HL.out⟩
            case measure => simp [intOf]; omega
          · rw [if_neg hv0] at hP
            obtain ⟨of2, hB, hP2⟩ := Option.bind_eq_some_iff.1 hP
            clear hP
            have HP := hid hP2
            have HL := hid hlen
            have HB := hid hB
            clear hP2 hv hlen hB
            go_wp2
            obtain ⟨wo, hwo⟩ : ∃ wo : World, wo = wr := ⟨_, rfl⟩
            rw [← hwo] at hf2 hrow2 s0 fz ⊢
            clear hwo
            go_loopg [8] (l.length + 1) (fun f bv wr => ∃ (b : Nat) (of3 : List Int), bv = .int .i64 b ∧ compB cs l m f b of3 = some of2 ∧ of3.length = l.length ∧ Fr [] w wr ∧ RowAt wr w.heap.size 3 (ints of3))
            case atStart => exact ⟨i, of', rfl, HB.out, HL.out, hf2, hrow2⟩
            case round =>
              obtain ⟨b, of3, rfl, hC, hl3, hf3, hrow3⟩ := hrel
              clear s0 fz
              cases gk with
              | zero => cases hC
              | succ f =>
                simp only [compB] at hC
                cases hb : of3[b]? with
                | none => rw [hb] at hC; cases hC
                | some vb =>
                  rw [hb] at hC
                  simp only at hC
                  have s0 : wr.cell? ⟨w.heap.size, b, none⟩ = some (.int .i64 vb) := by rw [hrow3.cell]; exact ints_get hb
                  have fz := fun i => hrow3.frozen i
                  have hbl : b < l.length := by rw [← hl3]; exact (List.getElem?_eq_some_iff.1 hb).1
                  have HL3 := hid hl3
                  clear hl3 hb
                  by_cases hvb : vb < 0
                  · rw [if_pos hvb] at hC
                    cases hn : nextF cs l b with
                    | none => rw [hn] at hC; cases hC
                    | some b' =>
                      rw [hn] at hC
                      simp only at hC
                      split at hC
                      case isFalse => cases hC
                      rename_i hb0
                      obtain ⟨b', rfl⟩ := Int.eq_ofNat_of_zero_le hb0
                      simp only [Int.toNat_natCast] at hC
                      have HC := hid hC
                      have HN := hid hn
                      have hrow4 := hrow3.set b (.int .i64 m)
                      rw [ints_set] at hrow4
                      have hf4 : Fr [] w (wr.setCell ⟨w.heap.size, b, none⟩ (.int .i64 m)) := hf3.setCell (.inr (Nat.le_refl _)) _
                      have hD := hid (h.fr hf4)
                      clear hC hn
                      go_wp2_with (go_at_call 46; refine (next_any hD.out b _ HN.out).mono ?_; rintro e w4 ⟨rfl, hf5⟩)
                      go_roundg f
                      case rel => exact ⟨b', of3.set b m, rfl, HC.out, by simp [HL3.out], hf4.trans hf5 (by simp), hrow4.fr hf5 (by simp)⟩
                      case measure => omega
                  · rw [if_neg hvb] at hC
                    obtain rfl := Option.some.inj hC
                    clear hC
                    go_wp2
                    go_roundw
                    case rel => exact ⟨i + 1, m + 1, of3, by omega, by omega, by go_num, by go_num, HP.out, hf3, hrow3, HL3.out⟩
                    case measure => simp [intOf]; omega
        · obtain rfl : i = l.length := by omega
          simp only [Nat.sub_self, List.range'_zero, comps, Option.some.injEq, Prod.mk.injEq] at hP
          obtain ⟨rfl, rfl⟩ := hP
          have HL := hid hlen
          clear hlen
          go_wp2
          go_ret2
          exact ⟨rfl, hf2, hrow2, HL.out⟩
end Go.Proofs.YtjmgjkcjnjlpdaaGreatDoor

/-! ## D11 -/
namespace Go.Proofs.YtjmgjkcjnjlpdaaGreatDoor
open Go.RowKit

theorem enterF_ok {cs : List Cr} {L : Int} {R : Int × List AE} (h : enterF cs L = some R) (h0 : R.1 = 0) : endsF cs L = some R.2 := by
  unfold enterF at h
  cases he : endsF cs L with
  | none => rw [he] at h; cases h; simp at h0
  | some l =>
    rw [he] at h
    simp only at h
    obtain ⟨_, _, h⟩ := Option.bind_eq_some_iff.1 h
    obtain ⟨_, _, h⟩ := Option.bind_eq_some_iff.1 h
    obtain ⟨_, _, h⟩ := Option.bind_eq_some_iff.1 h
    obtain ⟨_, _, h⟩ := Option.bind_eq_some_iff.1 h
    have := Option.some.inj h
    split at this
    · subst this; rfl
    · subst this; simp at h0

theorem check_any (cs : List Cr) (A : Option Addr) (cap : Nat) (L : Int) (w : World) (hr : Rd w A (crCells cs)) (R : Int × List AE) (hR : enterF cs L = some R) :
    Calls Tryz.prog 4 #[.agg #[.slice A cs.length cap, .int .i64 L]] w fun e w' => e = .returned (.int .i64 R.1) ∧ Fr [] w w' := by
  have HR := hid hR
  clear hR
  have hr1 := hid (hr.fr0 (Fr.alloc1 w (.cells #[.slice A cs.length cap, .int .i64 L] 24)))
  obtain ⟨r1, r2⟩ := R
  go_enter Tryz.func4, Tryz.ntmps4
  go_wp2_with fail
  refine (enter_any cs A cap L _ hr1.out _ HR.out).mono ?_
  rintro e w1 ⟨hf, ⟨h0, rfl⟩ | ⟨h0, q, B, rfl, hD⟩⟩
  · go_wp2
    go_ret
    exact ⟨rfl, (Fr.alloc1 _ _).trans hf (by simp)⟩
  · simp only at h0
    subst h0
    go_wp2
    go_ret
    exact ⟨rfl, (Fr.alloc1 _ _).trans hf (by simp)⟩

def CompsPost (w : World) (R : Int × List AE) (L : Int) (of : List Int) (n : Nat) (e : Ending) (w' : World) : Prop :=
  Fr [] w w' ∧
      ((R.1 ≠ 0 ∧ e = .returned (.tuple #[.slice none 0 0, .int .i64 0, .int .i64 R.1])) ∨
       (R.1 = 0 ∧ ∃ g, e = .returned (.tuple #[.slice (some ⟨g, 0, none⟩) R.2.length R.2.length, .int .i64 (n + L), .int .i64 0]) ∧ RowAt w' g 3 (ints of) ∧ of.length = R.2.length))

set_option maxHeartbeats 1000000 in
theorem comps_any (cs : List Cr) (A : Option Addr) (cap : Nat) (L : Int) (w : World) (hr : Rd w A (crCells cs)) (R : Int × List AE) (hR : enterF cs L = some R) (of : List Int) (n : Nat) (hC : R.1 = 0 → componentsF cs R.2 = some (of, n)) :
    Calls Tryz.prog 6 #[.agg #[.slice A cs.length cap, .int .i64 L]] w (CompsPost w R L of n) := by
  have HR := hid hR
  have hok := hid (enterF_ok hR)
  have HC := hid hC
  clear hR hC
  have hr1 := hid (hr.fr0 (Fr.alloc1 w (.cells #[.slice A cs.length cap, .int .i64 L] 24)))
  obtain ⟨r1, l⟩ := R
  go_enter Tryz.func6, Tryz.ntmps6
  go_wp2_with fail
  refine (enter_any cs A cap L _ hr1.out _ HR.out).mono ?_
  rintro e w1 ⟨hf, ⟨h0, rfl⟩ | ⟨h0, q, B, rfl, hD⟩⟩
  · simp only at h0
    have h0' : (r1 != 0) = true := by simpa using h0
    go_wp2
    go_ret3
    exact ⟨(Fr.alloc1 _ _).trans hf (by simp), .inl ⟨h0, rfl⟩⟩
  · simp only at h0
    subst h0
    have hok' := hok.out rfl
    have hc := HC.out rfl
    obtain ⟨hn2, hll, hL0, hL1⟩ := endsF_len hok'
    have hl4 : l.length ≤ 400 := by omega
    clear hll
    have hcn : n ≤ l.length := by have := hc; unfold componentsF at this; have := comps_le this; simp at this; omega
    have HCC := hid hc
    clear hc hok'
    go_wp2_with fail
    refine (components_any hD hl4 _ _ HCC.out).mono ?_
    rintro e w2 ⟨rfl, hf2, hrow, hlen⟩
    have hD2 := hD.fr hf2
    have c1 := hD2.c1
    obtain ⟨g, hg⟩ : ∃ g, g = w1.heap.size := ⟨_, rfl⟩
    rw [← hg] at hrow ⊢
    have HL := hid hlen
    clear hg hlen
    go_wp2
    go_region
    all_goals
      go_wp2
      go_ret3
      exact ⟨((Fr.alloc1 _ _).trans hf (by simp)).trans hf2 (by simp) |>.drew, .inr ⟨rfl, g, rfl, hrow, HL.out⟩⟩

def RegsPost (w : World) (R : Int × List AE) (rs : List (List (Nat × Nat))) (e : Ending) (w' : World) : Prop :=
  Fr [] w w' ∧
      ((R.1 ≠ 0 ∧ e = .returned (.tuple #[.slice none 0 0, .int .i64 R.1])) ∨
       (R.1 = 0 ∧ ∃ A' c', e = .returned (.tuple #[.slice A' rs.length c', .int .i64 0])))

set_option maxHeartbeats 1000000 in
theorem regs_any (cs : List Cr) (A : Option Addr) (cap : Nat) (L : Int) (w : World) (hr : Rd w A (crCells cs)) (R : Int × List AE) (hR : enterF cs L = some R) (rs : List (List (Nat × Nat))) (hC : R.1 = 0 → regionsF cs R.2 = some rs) :
    Calls Tryz.prog 7 #[.agg #[.slice A cs.length cap, .int .i64 L]] w (RegsPost w R rs) := by
  have HR := hid hR
  have HC := hid hC
  clear hR hC
  have hr1 := hid (hr.fr0 (Fr.alloc1 w (.cells #[.slice A cs.length cap, .int .i64 L] 24)))
  obtain ⟨r1, l⟩ := R
  go_enter Tryz.func7, Tryz.ntmps7
  go_wp2_with fail
  refine (enter_any cs A cap L _ hr1.out _ HR.out).mono ?_
  rintro e w1 ⟨hf, ⟨h0, rfl⟩ | ⟨h0, q, B, rfl, hD⟩⟩
  · simp only at h0
    have h0' : (r1 != 0) = true := by simpa using h0
    go_wp2
    go_ret2
    exact ⟨(Fr.alloc1 _ _).trans hf (by simp), .inl ⟨h0, rfl⟩⟩
  · simp only at h0
    subst h0
    have hc := HC.out rfl
    have HCC := hid hc
    clear hc
    go_wp2_with fail
    refine (regions_any hD _ HCC.out).mono ?_
    rintro e w2 ⟨A', c', rfl, hf2, hrow⟩
    clear hrow
    go_wp2
    go_ret2
    exact ⟨((Fr.alloc1 _ _).trans hf (by simp)).trans hf2 (by simp), .inr ⟨rfl, A', c', rfl⟩⟩

/-- the sum of the signs, as the program adds them -/
def writheF (n : Int) : List Cr → Int
  | [] => n
  | c :: r => writheF (wrap64 (n + c.s)) r

def WrithePost (w : World) (R : Int × List AE) (cs : List Cr) (e : Ending) (w' : World) : Prop :=
  Fr [] w w' ∧
      ((R.1 ≠ 0 ∧ e = .returned (.tuple #[.int .i64 0, .int .i64 R.1])) ∨ (R.1 = 0 ∧ e = .returned (.tuple #[.int .i64 (writheF 0 cs), .int .i64 0])))

set_option maxHeartbeats 1000000 in
theorem writhe_any (cs : List Cr) (A : Option Addr) (cap : Nat) (L : Int) (w : World) (hr : Rd w A (crCells cs)) (R : Int × List AE) (hR : enterF cs L = some R) :
    Calls Tryz.prog 8 #[.agg #[.slice A cs.length cap, .int .i64 L]] w (WrithePost w R cs) := by
  have HR := hid hR
  clear hR
  have hr1 := hid (hr.fr0 (Fr.alloc1 w (.cells #[.slice A cs.length cap, .int .i64 L] 24)))
  obtain ⟨r1, l⟩ := R
  go_enter Tryz.func8, Tryz.ntmps8
  go_wp2_with fail
  refine (enter_any cs A cap L _ hr1.out _ HR.out).mono ?_
  rintro e w1 ⟨hf, ⟨h0, rfl⟩ | ⟨h0, q, B, rfl, hD⟩⟩
  · simp only at h0
    have h0' : (r1 != 0) = true := by simpa using h0
    go_wp2
    go_ret2
    exact ⟨(Fr.alloc1 _ _).trans hf (by simp), .inl ⟨h0, rfl⟩⟩
  · simp only at h0
    subst h0
    have c0 := hD.c0
    have hn2 := hD.n2
    have hW : Hid (writheF 0 cs = writheF 0 (cs.drop 0)) := rfl
    go_wp2
    go_loopw [23, 6] (fun iv nv wr => ∃ (k : Nat) (m : Int), k ≤ cs.length ∧ iv = .int .i64 k ∧ nv = .int .i64 m ∧ writheF 0 cs = writheF m (cs.drop k) ∧ Fr [] w1 wr) (fun iv _ _ => cs.length - (intOf iv).toNat)
    case atStart => exact ⟨0, 0, by omega, rfl, rfl, rfl, Fr.refl _ _⟩
    case round =>
      obtain ⟨k, m, hk, rfl, rfl, hw, hf2⟩ := hrel
      by_cases hlt : k < cs.length
      · rw [List.drop_eq_getElem_cons hlt] at hw
        obtain ⟨x, hx⟩ : ∃ x, cs[k] = x := ⟨_, rfl⟩
        have hx' : cs[k]? = some x := by rw [List.getElem?_eq_getElem hlt, hx]
        rw [hx] at hw
        obtain ⟨b, off, rfl, hb, x0, x1, x2, x3, x4⟩ := ((hD.fr hf2).rc).cr hx'
        have HW := hid hw
        clear hw hx hx'
        go_wp2
        go_roundw
        case rel => exact ⟨k + 1, wrap64 (m + x.s), by omega, by go_num, rfl, HW.out, hf2.alloc _⟩
        case measure => simp [intOf]; omega
      · obtain rfl : k = cs.length := by omega
        rw [List.drop_length] at hw
        have HW := hid hw
        clear hw
        go_wp2
        go_ret2
        exact ⟨((Fr.alloc1 _ _).trans hf (by simp)).trans hf2 (by simp), .inr ⟨rfl, by rw [HW.out]; rfl⟩⟩
end Go.Proofs.YtjmgjkcjnjlpdaaGreatDoor

/-! ## D12 -/
namespace Go.Proofs.YtjmgjkcjnjlpdaaGreatDoor
open Go.RowKit

/-- what ends has shown of every crossing -/
structure CrOk (n : Nat) (x : Cr) : Prop where
  s : x.s = 1 ∨ x.s = -1
  a0 : 0 ≤ x.a
  a1 : x.a < 2 * (n : Int)
  b0 : 0 ≤ x.b
  b1 : x.b < 2 * (n : Int)
  c0 : 0 ≤ x.c
  c1 : x.c < 2 * (n : Int)
  d0 : 0 ≤ x.d
  d1 : x.d < 2 * (n : Int)

theorem endsP_rng {n i : Nat} {c : Cr} : ∀ {ps : List Nat} {m m' : MU}, endsP n i c ps m = some m' → ∀ p ∈ ps, 0 ≤ c.arc p ∧ c.arc p < 2 * (n : Int)
  | [], _, _, _, _, h => by simp at h
  | p :: r, m, m', h, q, hq => by
    unfold endsP at h
    split at h
    · cases h
    · rename_i hc
      rcases List.mem_cons.1 hq with rfl | hq
      · omega
      · exact endsP_rng h q hq

theorem endsC_ok {n : Nat} : ∀ {cs : List Cr} {i : Nat} {m m' : MU}, endsC n cs i m = some m' → ∀ x ∈ cs, CrOk n x
  | [], _, _, _, _, _, h => by simp at h
  | c :: r, i, m, m', h, x, hx => by
    unfold endsC at h
    split at h
    · cases h
    · rename_i hs
      obtain ⟨m1, h1, h2⟩ := Option.bind_eq_some_iff.1 h
      rcases List.mem_cons.1 hx with rfl | hx
      · have e0 := endsP_rng h1 0 (by simp)
        have e1 := endsP_rng h1 1 (by simp)
        have e2 := endsP_rng h1 2 (by simp)
        have e3 := endsP_rng h1 3 (by simp)
        simp only [Cr.arc] at e0 e1 e2 e3
        refine ⟨?_, e0.1, e0.2, e1.1, e1.2, e2.1, e2.2, e3.1, e3.2⟩
        simp only [Bool.and_eq_true, bne_iff_ne] at hs
        omega
      · exact endsC_ok h2 x hx

theorem endsF_ok {cs : List Cr} {L : Int} {l : List AE} (h : endsF cs L = some l) : ∀ x ∈ cs, CrOk cs.length x := by
  unfold endsF at h
  split at h
  · cases h
  · obtain ⟨m, h1, _⟩ := Option.map_eq_some_iff.1 h
    exact endsC_ok h1

/-- returns, and leaves all memory as it lay -/
def Quiet (w : World) (e : Ending) (w' : World) : Prop := (∃ v, e = .returned v) ∧ Fr [] w w'

theorem Quiet.of {w w' : World} {e : Ending} (v : Value) (he : e = .returned v) (hf : Fr [] w w') : Quiet w e w' := ⟨⟨v, he⟩, hf⟩

set_option maxHeartbeats 2000000 in
theorem linking_any (cs : List Cr) (A : Option Addr) (cap : Nat) (L i j : Int) (w : World) (hr : Rd w A (crCells cs)) (R : Int × List AE) (hR : enterF cs L = some R) (of : List Int) (n : Nat) (hC : R.1 = 0 → componentsF cs R.2 = some (of, n)) :
    Calls Tryz.prog 9 #[.agg #[.slice A cs.length cap, .int .i64 L], .int .i64 i, .int .i64 j] w (Quiet w) := by
  have HR := hid hR
  have hok := hid (enterF_ok hR)
  have HC := hid hC
  clear hR hC
  have hr1 := hid (hr.fr0 (Fr.alloc1 w (.cells #[.slice A cs.length cap, .int .i64 L] 24)))
  obtain ⟨r1, l⟩ := R
  go_enter Tryz.func9, Tryz.ntmps9
  go_wp2_with fail
  refine (enter_any cs A cap L _ hr1.out _ HR.out).mono ?_
  rintro e w1 ⟨hf, ⟨h0, rfl⟩ | ⟨h0, q, B, rfl, hD⟩⟩
  · simp only at h0
    have h0' : (r1 != 0) = true := by simpa using h0
    go_wp2
    go_ret2
    exact .of _ rfl ((Fr.alloc1 _ _).trans hf (by simp))
  · simp only at h0
    subst h0
    have hok' := hok.out rfl
    have hc := HC.out rfl
    have hgood := endsF_ok hok'
    obtain ⟨hn2, hll, hL0, hL1⟩ := endsF_len hok'
    have HLL := hid hll
    have hl4 : l.length ≤ 400 := by omega
    clear hll
    have hcn : n ≤ l.length := by have := hc; unfold componentsF at this; have := comps_le this; simp at this; omega
    have HCC := hid hc
    have HG := hid hgood
    clear hc hok' hgood
    go_wp2_with fail
    refine (components_any hD hl4 _ _ HCC.out).mono ?_
    rintro e w2 ⟨rfl, hf2, hrow, hlen⟩
    have hD2 := hD.fr hf2
    have c1 := hD2.c1
    have c0 := hD2.c0
    obtain ⟨g, hg⟩ : ∃ g, g = w1.heap.size := ⟨_, rfl⟩
    rw [← hg] at hrow ⊢
    have HL := hid hlen
    have hfw : Fr [] w w2 := ((Fr.alloc1 _ _).trans hf (by simp)).trans hf2 (by simp)
    clear hg hlen
    have hq : ((i < 0) ∨ (0 ≤ i ∧ j < 0)) ∨ (0 ≤ i ∧ 0 ≤ j ∧ (n : Int) + L ≤ i) ∨ (0 ≤ i ∧ 0 ≤ j ∧ i < (n : Int) + L ∧ (n : Int) + L ≤ j) ∨ (0 ≤ i ∧ 0 ≤ j ∧ i < (n : Int) + L ∧ j < (n : Int) + L ∧ (i == j) = true) ∨ (0 ≤ i ∧ 0 ≤ j ∧ i < (n : Int) + L ∧ j < (n : Int) + L ∧ (i == j) = false) := by
      cases h : (i == j) <;> simp <;> omega
    rcases hq with (h1 | ⟨h1, h2⟩) | ⟨h1, h2, h3⟩ | ⟨h1, h2, h3, h4⟩ | ⟨h1, h2, h3, h4, h5⟩ | ⟨h1, h2, h3, h4, h5⟩
    iterate 5 (focus
      go_wp2
      go_ret2
      exact .of _ rfl hfw)
    go_wp2
    go_loopw [64, 12] (fun iv nv wr => ∃ (k : Nat) (m : Int), k ≤ cs.length ∧ iv = .int .i64 k ∧ nv = .int .i64 m ∧ Fr [] w2 wr) (fun iv _ _ => cs.length - (intOf iv).toNat)
    case atStart => exact ⟨0, 0, by omega, rfl, rfl, Fr.refl _ _⟩
    case round =>
      obtain ⟨k, m, hk, rfl, rfl, hf3⟩ := hrel
      by_cases hlt : k < cs.length
      · obtain ⟨x, hx⟩ : ∃ x, cs[k]? = some x := ⟨cs[k], List.getElem?_eq_getElem hlt⟩
        obtain ⟨b, off, rfl, hb, x0, x1, x2, x3, x4⟩ := ((hD2.fr hf3).rc).cr hx
        obtain ⟨_, a0, a1, b0, b1, _, _, _, _⟩ := HG.out x (List.mem_of_getElem? hx)
        obtain ⟨xa, hxa⟩ := Int.eq_ofNat_of_zero_le a0
        obtain ⟨xb, hxb⟩ := Int.eq_ofNat_of_zero_le b0
        rw [hxa] at x0 a1
        rw [hxb] at x1 b1
        have ha : xa < l.length := by have := HLL.out; omega
        have hb' : xb < l.length := by have := HLL.out; omega
        have hlo : of[xa]? = some (of[xa]'(by have := HL.out; omega)) := List.getElem?_eq_getElem _
        have hup : of[xb]? = some (of[xb]'(by have := HL.out; omega)) := List.getElem?_eq_getElem _
        obtain ⟨lo, hlo'⟩ : ∃ v, of[xa]'(by have := HL.out; omega) = v := ⟨_, rfl⟩
        obtain ⟨up, hup'⟩ : ∃ v, of[xb]'(by have := HL.out; omega) = v := ⟨_, rfl⟩
        rw [hlo'] at hlo
        rw [hup'] at hup
        have y0 : wr.cell? ⟨g, xa, none⟩ = some (.int .i64 lo) := by rw [(hrow.fr hf3 (by simp)).cell]; exact ints_get hlo
        have y1 : wr.cell? ⟨g, xb, none⟩ = some (.int .i64 up) := by rw [(hrow.fr hf3 (by simp)).cell]; exact ints_get hup
        have hgb : g < wr.heap.size := (hrow.fr hf3 (by simp)).lt
        have hq : ((lo == i) = true ∧ (up == j) = true) ∨
           (((lo == i) = false ∨ ((lo == i) = true ∧ (up == j) = false)) ∧ ((lo == j) = false ∨ ((lo == j) = true ∧ (up == i) = false) ∨ ((lo == j) = true ∧ (up == i) = true))) := by
          cases (lo == i) <;> cases (up == j) <;> cases (lo == j) <;> cases (up == i) <;> simp
        clear hlo hup hlo' hup' hx a0 b0
        rcases hq with ⟨e1, e2⟩ | ⟨e1 | ⟨e1, e2⟩, e3 | ⟨e3, e4⟩ | ⟨e3, e4⟩⟩
        all_goals
          go_wp2
          go_region
          all_goals
            go_wp2
            go_roundw
            case rel => exact ⟨k + 1, _, by omega, by go_num, rfl, (hf3.alloc _).drew⟩
            case measure => simp [intOf]; omega
      · obtain rfl : k = cs.length := by omega
        go_wp2
        go_ret2
        exact .of _ rfl (hfw.trans hf3 (by simp))
end Go.Proofs.YtjmgjkcjnjlpdaaGreatDoor

/-! ## D13 -/
namespace Go.Proofs.YtjmgjkcjnjlpdaaGreatDoor
open Go.RowKit

def turnF (x : Cr) (k : Nat) : Cr := ⟨x.arc (k % 4), x.arc ((k + 1) % 4), x.arc ((k + 2) % 4), x.arc ((k + 3) % 4), x.s⟩

set_option maxHeartbeats 1000000 in
theorem turned_any (x : Cr) (k : Nat) (hk : k = 2 ∨ k = 3 ∨ k = 5) (w : World) :
    Calls Tryz.prog 28 #[.agg #[.int .i64 x.a, .int .i64 x.b, .int .i64 x.c, .int .i64 x.d], .int .i64 (k : Int)] w fun e w' =>
      e = .returned (.agg #[.int .i64 (x.arc (k % 4)), .int .i64 (x.arc ((k + 1) % 4)), .int .i64 (x.arc ((k + 2) % 4)), .int .i64 (x.arc ((k + 3) % 4))]) ∧ Fr [] w w' := by
  rcases hk with rfl | rfl | rfl
  all_goals
    go_enter Tryz.func28, Tryz.ntmps28
    go_wp2
    go_region
    all_goals
      go_wp2
      refine bodyPost_ret (v := .agg #[_, _, _, _]) ?_ rfl ⟨rfl, ?_⟩
      · simp [results, Tryz.results28, go_sem, Cr.arc]
      · exact (((Fr.refl _ _).alloc _).alloc _).drew

def mirF (x : Cr) : Cr := { turnF x (4 - x.s).toNat with s := -x.s }
def refF (x : Cr) : Cr := ⟨x.a, x.d, x.c, x.b, -x.s⟩

def ClonePost (w : World) (cs : List Cr) (e : Ending) (w' : World) : Prop :=
  ∃ A' c', e = .returned (.slice A' cs.length c') ∧ Fr [] w w' ∧ OwnR w' w.heap.size 54 5 A' cs.length c' (crCells cs)

set_option maxHeartbeats 1000000 in
set_option maxRecDepth 100000 in
theorem clone_any (cs : List Cr) (A : Option Addr) (cap : Nat) (w : World) (hr : Rd w A (crCells cs)) (hn : cs.length ≤ 1000000) :
    Calls Tryz.prog 48 #[.slice A cs.length cap] w (ClonePost w cs) := by
  cases A with
  | none =>
    have h0 : cs = [] := by
      cases cs with
      | nil => rfl
      | cons x r => obtain ⟨b, off, h, _⟩ := hr (by simp [crCells, Cr.cells]); cases h
    subst h0
    have hq : ∀ W, Sem.run Tryz.prog (binOp .eql 22 (.slice none 0 cap) (.slice none 0 0)) W = .ok (.bool true) W := fun _ => by kernel_rfl
    go_enter Tryz.func48, Tryz.ntmps48
    go_wp2
    go_ret
    exact ⟨none, 0, rfl, Fr.refl _ _, OwnR.nil _ _ _ _⟩
  | some a0 =>
    have hq : ∀ W, Sem.run Tryz.prog (binOp .eql 22 (.slice (some a0) cs.length cap) (.slice none 0 0)) W = .ok (.bool false) W := fun _ => by kernel_rfl
    go_enter Tryz.func48, Tryz.ntmps48
    have hi : (Tryz.prog.info? 54).map (fun i => (i.zero.map Value.cells, i.size, i.bytes)) = some (some #[.int .i64 0, .int .i64 0, .int .i64 0, .int .i64 0, .int .i64 0], 5, 40) := by kernel_rfl
    have hund : Tryz.prog.underlying 22 = some (.slice 54) := by kernel_rfl
    have hown := OwnR.of_row (base := w.heap.size) (k := 5) (n := 0) (RowAt.new w 54 []) (Nat.le_refl _) rfl (by decide)
    have hlen : (crCells cs).length = cs.length * 5 := flatMap_len _ 5 Cr.len cs
    have hone : ∀ u ∈ crCells cs, u.oneCell' = true := by
      intro u hu
      obtain ⟨x, _, hu⟩ := List.mem_flatMap.1 hu
      simp only [Cr.cells, List.mem_cons, List.not_mem_nil, or_false] at hu
      rcases hu with rfl | rfl | rfl | rfl | rfl <;> rfl
    go_wp2_with (at_builtin; refine wpList_append_rd _ rfl _ _ 22 rfl w.heap.size 54 5 40 _ hund hi rfl (by decide) (some ⟨w.heap.size, 0, none⟩) 0 0 [] rfl hown (some a0) cs.length cap (crCells cs) rfl hlen ((hr.fr0 (Fr.alloc1 _ _))) hone (by omega) (by omega) (by simp) ?_; intro A1 cap1 w1 hown1 hfr1 hlies1)
    go_ret
    refine ⟨A1, cap1, by simp, ?_, by simpa using hown1⟩
    exact (Fr.alloc1 _ _).trans hfr1 (by simp [ablocks])
end Go.Proofs.YtjmgjkcjnjlpdaaGreatDoor

/-! ## D14 -/
namespace Go.Proofs.YtjmgjkcjnjlpdaaGreatDoor
open Go.RowKit

theorem OwnR.base {w : World} {base base' : Nat} {e : TypeId} {k : Nat} {A : Option Addr} {n cap : Nat} {xs : List Value} (h : OwnR w base e k A n cap xs) (hb : base' ≤ base) : OwnR w base' e k A n cap xs :=
  ⟨h.1, h.2.elim .inl fun ⟨g, c, cur, h1, h2, h3⟩ => .inr ⟨g, c, cur, h1, Nat.le_trans hb h2, h3⟩⟩

def CopiedPost (w : World) (cs : List Cr) (g : Cr → Cr) (L : Int) (e : Ending) (w' : World) : Prop :=
  ∃ A' c', e = .returned (.agg #[.slice A' cs.length c', .int .i64 L]) ∧ Fr [] w w' ∧ OwnR w' w.heap.size 54 5 A' cs.length c' (crCells (cs.map g))

set_option maxHeartbeats 1000000 in
set_option maxRecDepth 100000 in
theorem copied_any (cs : List Cr) (A : Option Addr) (cap : Nat) (L : Int) (w : World) (hr : Rd w A (crCells cs)) (hn : cs.length ≤ 1000000) (F : Nat) (caps : Array Value) (g : Cr → Cr)
    (eg : ∀ args w, (callFunc F args).run Tryz.prog w = .ok (.enter F args) w)
    (hch : ∀ (x : Cr) (W : World), x ∈ cs → Fr [] w W → Calls Tryz.prog F (#[x.val] ++ caps) W fun e W' => e = .returned (g x).val ∧ Fr [] W W') :
    Calls Tryz.prog 26 #[.agg #[.slice A cs.length cap, .int .i64 L], .func (.func F) #[] caps] w (CopiedPost w cs g L) := by
  have hch' := fun (a b c d s : Int) (W : World) (h : (⟨a, b, c, d, s⟩ : Cr) ∈ cs) (h2 : Fr [] w W) => hch ⟨a, b, c, d, s⟩ W h h2
  have h0 : ∃ w1, w1 = (w.alloc (.cells #[.slice A cs.length cap, .int .i64 L] 24)).alloc (.cells #[.slice none 0 0, .int .i64 0] 24) := ⟨_, rfl⟩
  have hr1 := hid (hr.fr0 ((Fr.alloc1 w (.cells #[.slice A cs.length cap, .int .i64 L] 24)).alloc (.cells #[.slice none 0 0, .int .i64 0] 24)))
  go_enter Tryz.func26, Tryz.ntmps26
  go_wp2_with fail
  obtain ⟨w1, hw1⟩ := h0
  rw [← hw1] at hr1 ⊢
  have f1 : Fr [] w w1 := by rw [hw1]; exact (Fr.alloc1 _ _).alloc _
  have hs1 : w1.heap.size = w.heap.size + 2 := by rw [hw1]; simp
  have c0 : w1.cell? ⟨w.heap.size, 0, none⟩ = some (.slice A cs.length cap) := by rw [hw1]; go_simp
  have c1 : w1.cell? ⟨w.heap.size, 1, none⟩ = some (.int .i64 L) := by rw [hw1]; go_simp
  have d0 : w1.cell? ⟨w.heap.size + 1, 0, none⟩ = some (.slice none 0 0) := by rw [hw1]; go_simp
  have d1 : w1.cell? ⟨w.heap.size + 1, 1, none⟩ = some (.int .i64 0) := by rw [hw1]; go_simp
  have df : ∀ i, w1.frozen? ⟨w.heap.size + 1, i, none⟩ = false := fun i => by rw [hw1]; go_simp
  have HS := hid hs1
  clear hw1 hs1
  go_wp2_with fail
  refine (clone_any cs A cap w1 hr1.out hn).mono ?_
  rintro e w2 ⟨A', c', rfl, hf2, hown⟩


  go_wp2
  go_loopw [13] (fun iv wr => ∃ (k : Nat), k ≤ cs.length ∧ iv = .int .i64 k ∧ Fr [] w1 wr ∧ OwnR wr w1.heap.size 54 5 A' cs.length c' (crCells ((cs.take k).map g ++ cs.drop k))) (fun iv _ => cs.length - (intOf iv).toNat)
  case atStart => exact ⟨0, by omega, rfl, hf2, by simpa using hown⟩
  case round =>
    obtain ⟨k, hk, rfl, hf3, hO⟩ := hrel
    by_cases hlt : k < cs.length
    · obtain ⟨x, hx⟩ : ∃ x, cs[k]? = some x := ⟨cs[k], List.getElem?_eq_getElem hlt⟩
      have hxm := hid (List.mem_of_getElem? hx)
      have hx2 : ((cs.take k).map g ++ cs.drop k)[k]? = some x := by
        rw [List.getElem?_append_right (by simp; omega)]; simp [hx, Nat.min_eq_left hk]
      obtain ⟨b, off, rfl, hb, x0, x1, x2, x3, x4⟩ := hO.rd.cr hx2
      obtain rfl : off = 0 := by
        rcases hO.form with ⟨h, _⟩ | ⟨g, h⟩ <;> cases h; rfl
      simp only [Nat.zero_add] at x0 x1 x2 x3 x4
      obtain ⟨xa, xb, xc, xd, xs⟩ := x
      have hfw : Fr [] w wr := f1.trans hf3 (by simp)
      have hbN : w1.heap.size ≤ b := (hO.addr _ rfl).1
      have HO := hid hO
      have HLT := hid hlt
      have HX := hid hx
      clear hx hx2 hO
      go_wp2
      refine (hch' xa xb xc xd xs _ hxm.out (hfw.alloc _)).mono ?_
      rintro e w3 ⟨rfl, hf4⟩
      have hf5 : Fr [] wr w3 := (Fr.alloc1 _ _).trans hf4 (by simp)
      have y0 := hf5.cell x0 (by simp)
      have y1 := hf5.cell x1 (by simp)
      have y2 := hf5.cell x2 (by simp)
      have y3 := hf5.cell x3 (by simp)
      have y4 := hf5.cell x4 (by simp)
      have yf : ∀ i, w3.frozen? ⟨b, i, none⟩ = false := fun i => (hf5.frozenE (p := ⟨b, i, none⟩) hb (by simp)).trans (HO.out.frozen i)
      have hb3 : b < w3.heap.size := Nat.lt_of_lt_of_le hb hf5.size
      have HO3 := hid (HO.out.fr hf5 (by simp))
      obtain ⟨⟨ya, yb, yc, yd, ys⟩, hy⟩ : ∃ y, g ⟨xa, xb, xc, xd, xs⟩ = y := ⟨_, rfl⟩
      rw [hy]
      simp only [Cr.val]
      have HY := hid hy
      have hf6 : Fr [] w1 w3 := hf3.trans hf5 (by simp)
      clear hy x0 x1 x2 x3 x4 hf4 hf5 HO
      go_wp2
      go_roundw
      case rel =>
        have hlt := HLT.out

        refine ⟨k + 1, by omega, by go_num, ?_, ?_⟩
        · exact ((((hf6.setCell (.inr hbN) _).setCell (.inr hbN) _).setCell (.inr hbN) _).setCell (.inr hbN) _).setCell (.inr hbN) _
        · have hl : (crCells ((cs.take k).map g ++ cs.drop k)).length = cs.length * 5 := HO3.out.len
          have h5 := (((((HO3.out.set (k * 5) (by omega) (.int .i64 ya)).set (k * 5 + 1) (by simp only [List.length_set]; omega) (.int .i64 yb)).set (k * 5 + 2) (by simp only [List.length_set]; omega) (.int .i64 yc)).set (k * 5 + 3) (by simp only [List.length_set]; omega) (.int .i64 yd)).set (k * 5 + 4) (by simp only [List.length_set]; omega) (.int .i64 ys))
          rw [crCells, set_flatMap5 Cr.cells Cr.len ⟨ya, yb, yc, yd, ys⟩ _ _ _ _ _ rfl _ _ (by simp; omega)] at h5
          have he : ((cs.take k).map g ++ cs.drop k).set k ⟨ya, yb, yc, yd, ys⟩ = (cs.take (k + 1)).map g ++ cs.drop (k + 1) := by
            rw [List.set_append_right _ _ (by simp; omega), List.drop_eq_getElem_cons hlt, List.take_succ_eq_append_getElem hlt]
            have hx := HX.out
            rw [List.getElem?_eq_getElem hlt] at hx
            simp [Nat.min_eq_left hk, Option.some.inj hx, HY.out]
          rw [he] at h5
          exact h5
      case measure => have := HLT.out; simp [intOf]; omega
    · obtain rfl : k = cs.length := by omega
      have e0 := hf3.cell c1 (by simp)
      have e1 := hf3.cell d0 (by simp)
      have e2 := hf3.cell d1 (by simp)
      have hs1 := HS.out
      have ef : ∀ i, wr.frozen? ⟨w.heap.size + 1, i, none⟩ = false := fun i => (hf3.frozenE (p := ⟨w.heap.size + 1, i, none⟩) (by simp; omega) (by simp)).trans (df i)
      have hlt2 : w.heap.size + 1 < wr.heap.size := by have := hf3.size; omega
      have hlt3 : w.heap.size < wr.heap.size := by omega
      clear hs1
      have HO := hid hO
      clear hO
      go_wp2
      refine bodyPost_ret (v := .agg #[.slice A' cs.length c', .int .i64 L]) ?_ rfl ⟨A', c', rfl, ?_, ?_⟩
      · simp [results, Tryz.results26, go_sem, hlt2, e1, e2]
      · exact ((f1.trans hf3 (by simp)).setCell (.inr (by simp)) _).setCell (.inr (by simp)) _
      · have h := HO.out
        rw [List.take_length, List.drop_length, List.append_nil] at h
        have hA : ∀ a, A' = some a → w1.heap.size ≤ a.block := fun a ha => (h.addr a ha).1
        have hs1 := HS.out
        have h2 := (h.setCell (p := ⟨w.heap.size + 1, 0, none⟩) (.slice A' cs.length c') (fun a ha => by have := hA a ha; simp; omega)).setCell (p := ⟨w.heap.size + 1, 1, none⟩) (.int .i64 L) (fun a ha => by have := hA a ha; simp; omega)
        exact h2.base (by omega)
end Go.Proofs.YtjmgjkcjnjlpdaaGreatDoor
