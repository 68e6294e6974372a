/- sphenoidlaw22.DiagStays: a part of its proof: walks of the functions that it comes to, and plain laws (D38). -/
import Derived.Test.YtjmgjkcjnjlpdaaGreatDoorMk
set_option linter.unusedVariables false
set_option linter.unusedSimpArgs false
set_option linter.unusedSectionVars false
/-! ## D38 -/
namespace Go.Proofs.YtjmgjkcjnjlpdaaGreatDoor
open Go.RowKit

theorem flatMap_one {α β : Type} (f : α → β) (l : List α) : l.flatMap (fun t => [f t]) = l.map f := by
  induction l with
  | nil => rfl
  | cons x r ih => rw [List.flatMap_cons, ih]; rfl

theorem CodeAt.frS {w w' : World} {g : Nat} {t : CodeV} (h : CodeAt w g t) {S : List Nat} (hf : Fr S w w') (hS : ∀ k ∈ S, k = g) : CodeAt w' g t :=
  ⟨h.1.fr hf (fun hn a ha hm => h.2.2 hn a ha (hS _ hm)), h.2.1, h.2.2⟩

/-- the codes in their row g -/
structure CodesAt (W : World) (g n : Nat) (items : List CodeV) : Prop where
  len : items.length = n
  row : RowAt W g 79 (items.map encCode)
  ats : ∀ t ∈ items, CodeAt W g t ∧ t.2.2.length ≤ 200
theorem CodesAt.to {W W' : World} {g n items} (h : CodesAt W g n items) (hf : Fr [] W W') : CodesAt W' g n items :=
  ⟨h.len, h.row.fr hf (by simp), fun t ht => ⟨(h.ats t ht).1.frS hf (by simp), (h.ats t ht).2⟩⟩
theorem CodesAt.set {W : World} {g n items} (h : CodesAt W g n items) (k : Nat) (t : CodeV) (ht : CodeAt W g t) (hl : t.2.2.length ≤ 200) : CodesAt (W.setCell ⟨g, k, none⟩ (encCode t)) g n (items.set k t) := by
  have hf : Fr [g] W (W.setCell ⟨g, k, none⟩ (encCode t)) := (Fr.refl _ _).setCell (.inl (by simp)) _
  refine ⟨by simpa using h.len, by rw [List.map_set]; exact h.row.set k (encCode t), fun u hu => ?_⟩
  rcases List.mem_or_eq_of_mem_set hu with hm | rfl
  · exact ⟨(h.ats u hm).1.frS hf (by simp), (h.ats u hm).2⟩
  · exact ⟨ht.frS hf (by simp), hl⟩

theorem UCut.growV {W w1 w2 : World} {xs : List Cr} {L : Int} {A1 A2 : Option Addr} {c1 c2 p : Nat} {a b c d s : Int} (h : UCut W xs L p A1 c1 w1) (hfr : Fr (ablocks A1) w1 w2) (hl : Lies w1 A1 A2) (hown : OwnR w2 W.heap.size 54 5 A2 (xs.length + 1) c2 (crCells xs ++ [.int .i64 a, .int .i64 b, .int .i64 c, .int .i64 d, .int .i64 s])) :
    ∃ ys : List Cr, ys.length = xs.length + 1 ∧ UCut W ys L p A2 c2 (w2.setCell ⟨p, 0, none⟩ (.slice A2 (xs.length + 1) c2)) :=
  ⟨_, by simp, h.grow (y := ⟨a, b, c, d, s⟩) hfr hl hown⟩

set_option maxHeartbeats 2000000 in
set_option maxRecDepth 100000 in
theorem canonical_any (cs : List Cr) (A : Option Addr) (cap : Nat) (L : Int) (w : World) (hr : Rd w A (crCells cs)) (R : Int × List AE) (hR : enterF cs L = some R) :
    Calls Tryz.prog 16 #[.agg #[.slice A cs.length cap, .int .i64 L]] w (Quiet w) := by
  have HR := hid hR
  have HOK := hid (enterF_ok hR)
  clear hR
  obtain ⟨r1, l⟩ := R
  obtain ⟨W, hW⟩ : ∃ W, W = (w.alloc (.cells #[.slice A cs.length cap, .int .i64 L] 24)).alloc (.cells #[.slice none 0 0, .int .i64 0] 24) := ⟨_, rfl⟩
  have hfW : Fr [] w W := by rw [hW]; exact (Fr.alloc1 _ _).alloc _
  have g0 : W.cell? ⟨w.heap.size + 1, 0, none⟩ = some (.slice none 0 0) := by rw [hW]; go_simp
  have g1 : W.cell? ⟨w.heap.size + 1, 1, none⟩ = some (.int .i64 0) := by rw [hW]; go_simp
  have gf : ∀ i, W.frozen? ⟨w.heap.size + 1, i, none⟩ = false := fun i => by rw [hW]; go_simp
  have hs1 : w.heap.size + 1 < W.heap.size := by rw [hW]; simp
  have c0 : W.cell? ⟨w.heap.size, 0, none⟩ = some (.slice A cs.length cap) := by rw [hW]; go_simp
  have c1 : W.cell? ⟨w.heap.size, 1, none⟩ = some (.int .i64 L) := by rw [hW]; go_simp
  have hs0 : w.heap.size < W.heap.size := by omega
  go_enter Tryz.func16, Tryz.ntmps16
  go_wp2_with fail
  rw [← hW]
  clear hW
  refine (enter_any cs A cap L W (hr.fr0 hfW) _ HR.out).mono ?_
  rintro e w1 ⟨hf1, ⟨h0, rfl⟩ | ⟨h0, q, B, rfl, hD⟩⟩
  all_goals have f1 : Fr [] w w1 := hfW.then hf1
  all_goals replace g0 := hf1.cell g0 (by simp)
  all_goals replace g1 := hf1.cell g1 (by simp)
  all_goals replace gf : ∀ i, w1.frozen? ⟨w.heap.size + 1, i, none⟩ = false := fun i => (hf1.frozenE (p := ⟨w.heap.size + 1, i, none⟩) hs1 (by simp)).trans (gf i)
  all_goals replace hs1 := Nat.lt_of_lt_of_le hs1 hf1.size
  · simp only at h0
    have h0' : (r1 != 0) = true := by simpa using h0
    clear c0 c1 hs0
    go_wp2
    refine bodyPost_ret (v := .tuple #[.agg #[.slice none 0 0, .int .i64 0], .int .i64 r1]) ?_ rfl (.of _ rfl ?_)
    · simp [results, Tryz.results16, go_sem, hs1, g0, g1]
    · exact (f1.setCell (.inr (by simp)) _).setCell (.inr (by simp)) _
  · simp only at h0
    subst h0
    have hok := HOK.out rfl
    simp only at hok hD
    obtain ⟨hn, hll, hL0, hL1⟩ := endsF_len hok
    have hA := endsF_arcs hok
    have HCR := hid (endsF_ok hok)
    obtain ⟨of, n, hpf, hol, hob⟩ := hA.pieces
    have hpn : n ≤ 200 := by
      have := pcs_le hpf
      simp at this
      omega
    have HK : Hid (∀ V, Fr [] w1 V → Fr [] w V ∧ V.cell? ⟨w.heap.size + 1, 0, none⟩ = some (.slice none 0 0) ∧ V.cell? ⟨w.heap.size + 1, 1, none⟩ = some (.int .i64 0) ∧ (∀ i, V.frozen? ⟨w.heap.size + 1, i, none⟩ = false) ∧ w.heap.size + 1 < V.heap.size ∧ DiagAt V q A cap cs L B l.length l) :=
      hid fun V hV => ⟨f1.then hV, hV.cell g0 (by simp), hV.cell g1 (by simp), fun i => (hV.frozenE (p := ⟨w.heap.size + 1, i, none⟩) hs1 (by simp)).trans (gf i), Nat.lt_of_lt_of_le hs1 hV.size, hD.fr hV⟩
    have HOB := hid hob
    have hol' := hid hol
    clear hok c0 c1 hs0 g0 g1 gf hs1 hf1 hob hol
    go_wp2_with fail
    refine (pieces_any hD of n hpf).mono ?_
    rintro e w2 ⟨rfl, hf2, hof, -⟩
    have hmk := fun W => run_make_rows (P := Tryz.prog) (fun t : CodeV => [encCode t]) (none, 0, []) 78 79 1 24 (by kernel_rfl) (by kernel_rfl) rfl (by omega) (n : Int) n rfl (by omega) (by omega) W
    have HOF := hid hof
    have hofs := hof.lt
    clear hD hpf hof
    go_wp2
    obtain ⟨W3, hW3⟩ : ∃ W3, W3 = w2.alloc (.cells ((List.replicate n ((none, 0, []) : CodeV)).flatMap (fun t => [encCode t])).toArray 79) := ⟨_, rfl⟩
    have hf3 : Fr [] w2 W3 := by rw [hW3]; exact Fr.alloc1 _ _
    have hC3 : CodesAt W3 w2.heap.size n (List.replicate n ((none, 0, []) : CodeV)) := by
      refine ⟨by simp, ?_, fun t ht => ?_⟩
      · rw [hW3]
        have := RowAt.new w2 79 ((List.replicate n ((none, 0, []) : CodeV)).map encCode)
        rw [flatMap_one]
        exact this
      · have := List.eq_of_mem_replicate ht
        subst this
        exact ⟨⟨Rd.nil _ _, by simp, fun h => by simp [crCells] at h⟩, by simp⟩
    rw [← hW3]
    have HC3 := hid hC3
    have HMK := hid hmk
    clear hW3 hC3 hmk
    have hnil : ∀ k c W, Sem.run Tryz.prog (binOp .eql 79 (.slice none k c) (.slice none 0 0)) W = .ok (.bool true) W := fun _ _ _ => by kernel_rfl
    have hsome : ∀ a k c W, Sem.run Tryz.prog (binOp .eql 79 (.slice (some a) k c) (.slice none 0 0)) W = .ok (.bool false) W := fun _ _ _ _ => by kernel_rfl
    have hw12 := hf2.size
    have hw23 := hf3.size
    go_loopw [37] (fun iv wr => ∃ (i : Nat) (items : List CodeV), iv = .int .i64 i ∧ i ≤ cs.length ∧ Fr [] w2 wr ∧ CodesAt wr w2.heap.size n items) (fun iv _ => cs.length - (intOf iv).toNat)
    case atStart => exact ⟨0, _, rfl, by omega, hf3, HC3.out⟩
    case round =>
      obtain ⟨i, items, rfl, hi, hfr, hC⟩ := hrel
      by_cases hlt : i < cs.length
      · obtain ⟨kv, hkv⟩ : ∃ kv, of[i]? = some kv := ⟨of[i]'(by rw [hol'.out]; exact hlt), List.getElem?_eq_getElem _⟩
        obtain ⟨hk0, hk1⟩ := HOB.out i kv hkv
        obtain ⟨kk, rfl⟩ := Int.eq_ofNat_of_zero_le hk0
        have hofr := HOF.out.fr hfr (by simp)
        have o0 : wr.cell? ⟨w1.heap.size, i, none⟩ = some (.int .i64 kk) := by rw [hofr.cell]; simp [ints, hkv]
        have hofl := hofr.lt
        have HCC := hid hC
        have HKV := hid hkv
        clear hC hofr hkv hk0
        go_wp2
        go_loopw [42] (fun jv wr => ∃ (j : Nat) (items : List CodeV), jv = .int .i64 j ∧ j ≤ 2 ∧ Fr [] w2 wr ∧ CodesAt wr w2.heap.size n items) (fun jv _ => 2 - (intOf jv).toNat)
        case atStart => exact ⟨0, items, rfl, by omega, hfr, HCC.out⟩
        case round =>
          obtain ⟨j, items, rfl, hj, hfr, hC⟩ := hrel
          clear o0 hofl
          by_cases hj2 : j < 2
          · have hjj : (j : Int) < 2 := by omega
            have hDr := (HK.out wr (hf2.then hfr)).2.2.2.2.2
            have HCC := hid hC
            have HDR := hid hDr
            clear hC hDr
            go_wp2_with fail
            refine (code_any HDR.out hA HCR.out i j hlt).mono ?_
            rintro e w4 ⟨A4, c4, rows, rfl, hf4, hown4, hr4⟩
            have hC4 := HCC.out.to hf4
            have hk2 : kk < items.length := by rw [hC4.len]; omega
            have hcell : w4.cell? ⟨w2.heap.size, kk, none⟩ = some (encCode items[kk]) := by rw [hC4.row.cell]; simp [hk2]
            have hat := hC4.ats items[kk] (List.getElem_mem hk2)
            generalize items[kk] = t at hcell hat
            obtain ⟨tA, tc, tr⟩ := t
            have hgl := hC4.row.lt
            have hgf := fun i => hC4.row.frozen i
            have hat4 : CodeAt w4 w2.heap.size (A4, c4, rows) := ⟨hown4.rd, by simp only; omega, fun _ a ha => by have := (hown4.addr a ha).1; have := HCC.out.row.lt; simp only at *; omega⟩
            have HC4 := hid hC4
            have HAT := hid hat
            have HAT4 := hid hat4
            have hf24 := hfr.then hf4
            have hkn : kk < n := by omega
            clear hC4 hat hat4 hown4 hf4 hfr hk2
            simp only [encCode] at hcell
            have hset : CodesAt (w4.setCell ⟨w2.heap.size, kk, none⟩ (.slice A4 rows.length c4)) w2.heap.size n (items.set kk (A4, c4, rows)) := HC4.out.set kk (A4, c4, rows) HAT4.out hr4
            have HSET := hid hset
            clear hset
            cases tA with
            | none =>
              go_wp2
              go_roundw
              case rel => exact ⟨j + 1, _, by go_num, by omega, hf24.setCell (.inr (by simp)) _, HSET.out⟩
              case measure => simp [intOf]; omega
            | some a =>
              go_wp2_with fail
              refine (compared_any rows tr A4 (some a) c4 tc w4 HAT4.out.1 HAT.out.1.1 (by omega) (Nat.le_trans HAT.out.2 (by omega))).mono ?_
              rintro e w5 ⟨rfl, hg5⟩
              have hC5 := HC4.out.to hg5.1
              have hat45 : CodeAt w5 w2.heap.size (A4, c4, rows) := HAT4.out.frS hg5.1 (by simp)
              have hset5 : CodesAt (w5.setCell ⟨w2.heap.size, kk, none⟩ (.slice A4 rows.length c4)) w2.heap.size n (items.set kk (A4, c4, rows)) := hC5.set kk (A4, c4, rows) hat45 hr4
              have HSET5 := hid hset5
              have HC5 := hid hC5
              have hcell5 := hg5.1.cell hcell (by simp)
              have hgl5 := Nat.lt_of_lt_of_le hgl hg5.1.size
              have hgf5 : ∀ i, w5.frozen? ⟨w2.heap.size, i, none⟩ = false := fun i => hC5.row.frozen i
              have hf25 := hf24.then hg5.1
              clear hset5 hC5 hat45 hcell hgl hgf hf24
              generalize compF rows tr = cc
              by_cases hcc : cc < 0
              · go_wp2
                go_roundw
                case rel => exact ⟨j + 1, _, by go_num, by omega, hf25.setCell (.inr (by simp)) _, HSET5.out⟩
                case measure => simp [intOf]; omega
              · go_wp2
                go_roundw
                case rel => exact ⟨j + 1, _, by go_num, by omega, hf25, HC5.out⟩
                case measure => simp [intOf]; omega
          · obtain rfl : j = 2 := by omega
            have HCC := hid hC
            clear hC
            go_wp2
            go_roundw
            case rel => exact ⟨i + 1, items, by go_num, by omega, hfr, HCC.out⟩
            case measure => simp [intOf]; omega
      · obtain rfl : i = cs.length := by omega
        clear hlt
        have hown : OwnR wr w2.heap.size 79 1 (some ⟨w2.heap.size, 0, none⟩) items.length items.length (items.map encCode) := OwnR.of_row hC.row (Nat.le_refl _) (by simp) (by have := hC.len; have h2 : 200 ≤ maxLen := (by decide); omega)
        have hil := hC.len
        have hs := sortCodes_any items w2.heap.size items.length w2.heap.size wr hown (fun t ht => (hC.ats t ht).1) (by omega)
        rw [hil] at hs
        have HCC := hid hC
        clear hC hown
        go_wp2_with fail
        refine hs.mono ?_
        rintro e w6 ⟨rfl, hf6, items6, hl6, hm6, hown6⟩
        have hfr6 : Fr [] w2 w6 := hfr.trans hf6 (fun k hk => by simp at hk; subst hk; exact .inr (Nat.le_refl _))
        obtain ⟨hfw6, g0, g1, gf, hs1, hD6⟩ := HK.out w6 (hf2.then hfr6)
        have hats6 : ∀ t ∈ items6, CodeAt w6 w2.heap.size t ∧ t.2.2.length ≤ 200 := fun t ht => ⟨(HCC.out.ats t (hm6 t ht)).1.frS hf6 (by simp), (HCC.out.ats t (hm6 t ht)).2⟩
        have hl6n : items6.length = n := by omega
        have HATS := hid hats6
        have HL6 := hid hl6n
        have d1 := hD6.c1
        have hq6 := hD6.lt
        have hU0 : UCut w6 [] L w6.heap.size none 0 (w6.alloc (.cells #[.slice none 0 0, .int .i64 L] 24)) := UCut.late (al := []) (Fr.refl _ _) (OwnR.nil _ _ _ _)
        have HU0 := hid hU0
        have HOWN := hid hown6
        clear hs HC3 hf3 hats6 hl6n hm6 hl6 hU0 hown6 hD6 hfr hil
        go_wp2
        go_loopw [79] (fun iv wr => ∃ (k : Nat) (ys : List Cr) (A2 : Option Addr) (c2 : Nat), iv = .int .i64 k ∧ k ≤ n ∧ ys.length ≤ 200 * k ∧ UCut w6 ys L w6.heap.size A2 c2 wr) (fun iv _ => n - (intOf iv).toNat)
        case atStart => exact ⟨0, [], none, 0, rfl, by omega, by simp, HU0.out⟩
        case round =>
          obtain ⟨k, ys, A2, c2, rfl, hk, hyl, hU⟩ := hrel
          clear d1 hq6
          by_cases hlt : k < n
          · have hk6 : k < items6.length := by rw [HL6.out]; exact hlt
            have hcell := hU.fr.cell (HOWN.out.cellAt (i := k) (u := encCode items6[k]) (by simp [hk6])) (by simp)
            have hgs := Nat.lt_of_lt_of_le (HOWN.out.addr _ rfl).2 hU.fr.size
            have hat := HATS.out items6[k] (List.getElem_mem hk6)
            generalize items6[k] = t at hcell hat
            obtain ⟨tA, tc, tr⟩ := t
            simp only [encCode] at hcell hgs
            obtain ⟨⟨hrt, -, -⟩, hl200⟩ := hat
            simp only at hrt hl200
            have q0 := hU.c0
            have qlt := hU.lt
            have HU := hid hU
            clear hU hk6
            go_wp2
            go_loopw [89] (fun jv wr => ∃ (j : Nat) (ys' : List Cr) (A2 : Option Addr) (c2 : Nat), jv = .int .i64 j ∧ j ≤ tr.length ∧ ys'.length ≤ 200 * k + j ∧ UCut w6 ys' L w6.heap.size A2 c2 wr) (fun jv _ => tr.length - (intOf jv).toNat)
            case atStart => exact ⟨0, ys, A2, c2, rfl, by omega, by omega, HU.out⟩
            case round =>
              clear hcell hgs q0 qlt
              obtain ⟨j, ys', A3, c3, rfl, hj, hyl', hU3⟩ := hrel
              by_cases hjl : j < tr.length
              · obtain ⟨b, off, rfl, hb, x0, x1, x2, x3, x4⟩ := (hrt.fr0 hU3.fr).cr (List.getElem?_eq_getElem hjl)
                generalize tr[j] = x at x0 x1 x2 x3 x4
                have q0 := hU3.c0
                have qlt := hU3.lt
                have qf := hU3.fz
                have hne : wr.heap.size ≠ w6.heap.size := by omega
                have hW0 := hU3.fr.size
                have HU3 := hid hU3
                clear hU3
                go_wp2_with (at_builtin; refine wpList_append1 _ rfl _ _ 22 rfl w6.heap.size 54 5 40 #[.int .i64 0, .int .i64 0, .int .i64 0, .int .i64 0, .int .i64 0] (by kernel_rfl) (by kernel_rfl) rfl (by omega) _ _ _ (crCells ys') rfl ((HU3.out.own.alloc _).alloc _) _ _ rfl rfl (RowAt.new' _ _ _ _ (by simp)) (by simp [Value.oneCell']) (by omega) (by omega) (by simp; omega) ?_; intro A7 c7 w7 hown7 hfr7 hlies7; obtain ⟨s0, sf, sl⟩ := (HU3.out.to ((Fr.alloc1 _ _).alloc _)).kept hfr7)
                go_roundw
                case rel =>
                  obtain ⟨ys7, hl7, h7⟩ := (HU3.out.to ((Fr.alloc1 _ _).alloc _)).growV hfr7 hlies7 (c2 := c7) hown7
                  exact ⟨j + 1, ys7, A7, c7, by go_num, by omega, by omega, h7⟩
                case measure => simp [intOf]; omega
              · obtain rfl : j = tr.length := by omega
                have HU3 := hid hU3
                clear hU3
                go_wp2
                go_roundw
                case rel => exact ⟨k + 1, ys', A3, c3, by go_num, by omega, by omega, HU3.out⟩
                case measure => simp [intOf]; omega
          · have q0 := hU.c0
            have q1 := hU.c1
            have qlt := hU.lt
            have hfu := hU.fr
            have hne : w6.heap.size ≠ w.heap.size + 1 := by omega
            have v0 := hfu.cell g0 (by simp)
            have v1 := hfu.cell g1 (by simp)
            have vf : ∀ i, wr.frozen? ⟨w.heap.size + 1, i, none⟩ = false := fun i => (hfu.frozenE (p := ⟨w.heap.size + 1, i, none⟩) hs1 (by simp)).trans (gf i)
            have vl := Nat.lt_of_lt_of_le hs1 hfu.size
            have hkn : k = n := by omega
            subst hkn
            clear hU hlt
            go_wp2
            refine bodyPost_ret (v := .tuple #[.agg #[.slice A2 ys.length c2, .int .i64 L], .int .i64 0]) ?_ rfl (.of _ rfl ?_)
            · simp [results, Tryz.results16, go_sem, vl, v0, v1, hne, hne.symm]
            · exact ((hfw6.then hfu).setCell (.inr (by simp)) _).setCell (.inr (by simp)) _
end Go.Proofs.YtjmgjkcjnjlpdaaGreatDoor
