/- sphenoidlaw22.DiagStays: a part of its proof: walks of the functions that it comes to, and plain laws (D16, D17, D18, D19, D20, D21). -/
import Derived.Test.YtjmgjkcjnjlpdaaGreatDoorMe
import Derived.BigQuiet
import Derived.Deep.DeepCutAuto
import Derived.Deep.RegionHeld3
set_option linter.unusedVariables false
set_option linter.unusedSimpArgs false
set_option linter.unusedSectionVars false
/-! ## D16 -/
namespace Go.Proofs.YtjmgjkcjnjlpdaaGreatDoor
open Go.RowKit

/-- what a function leaves that returns a diagram -/
def DiaPost (w : World) (r : Int) (cs' : List Cr) (L : Int) (e : Ending) (w' : World) : Prop :=
  Fr [] w w' ∧ ((r ≠ 0 ∧ e = .returned (.tuple #[.agg #[.slice none 0 0, .int .i64 0], .int .i64 r])) ∨
    (r = 0 ∧ ∃ A' c', e = .returned (.tuple #[.agg #[.slice A' cs'.length c', .int .i64 L], .int .i64 0]) ∧ OwnR w' w.heap.size 54 5 A' cs'.length c' (crCells cs')))

theorem enterF_ends {cs : List Cr} {L : Int} {R : Int × List AE} (h : enterF cs L = some R) (h0 : R.1 = 0) : cs.length ≤ 200 ∧ ∀ x ∈ cs, CrOk cs.length x :=
  ⟨(endsF_len (enterF_ok h h0)).1, endsF_ok (enterF_ok h h0)⟩

set_option maxHeartbeats 1000000 in
theorem mirror_any (cs : List Cr) (A : Option Addr) (cap : Nat) (L : Int) (w : World) (hr : Rd w A (crCells cs)) (R : Int × List AE) (hR : enterF cs L = some R) :
    Calls Tryz.prog 10 #[.agg #[.slice A cs.length cap, .int .i64 L]] w (DiaPost w R.1 (cs.map mirF) L) := by
  have HR := hid hR
  have hok := hid (enterF_ends hR)
  clear hR
  obtain ⟨W, hW⟩ : ∃ W, W = (w.alloc (.cells #[.slice A cs.length cap, .int .i64 L] 24)).alloc (.cells #[.slice none 0 0, .int .i64 0] 24) := ⟨_, rfl⟩
  have hfW : Fr [] w W := by rw [hW]; exact (Fr.alloc1 _ _).alloc _
  have hr1 := hid (hr.fr0 hfW)
  have c0 : W.cell? ⟨w.heap.size, 0, none⟩ = some (.slice A cs.length cap) := by rw [hW]; go_simp
  have c1 : W.cell? ⟨w.heap.size, 1, none⟩ = some (.int .i64 L) := by rw [hW]; go_simp
  have d0 : W.cell? ⟨w.heap.size + 1, 0, none⟩ = some (.slice none 0 0) := by rw [hW]; go_simp
  have d1 : W.cell? ⟨w.heap.size + 1, 1, none⟩ = some (.int .i64 0) := by rw [hW]; go_simp
  have df : ∀ i, W.frozen? ⟨w.heap.size + 1, i, none⟩ = false := fun i => by rw [hW]; go_simp
  have hs : w.heap.size + 1 < W.heap.size := by rw [hW]; simp
  have hsz := hid (show W.heap.size = w.heap.size + 2 by rw [hW]; simp)
  obtain ⟨r1, l⟩ := R
  simp only
  go_enter Tryz.func10, Tryz.ntmps10
  go_wp2_with fail
  rw [← hW]
  clear hW
  refine (enter_any cs A cap L _ hr1.out _ HR.out).mono ?_
  rintro e w1 ⟨hf, ⟨h0, rfl⟩ | ⟨h0, q, B, rfl, hD⟩⟩
  all_goals have e0 := hf.cell c0 (by simp)
  all_goals have e1 := hf.cell c1 (by simp)
  all_goals have g0 := hf.cell d0 (by simp)
  all_goals have g1 := hf.cell d1 (by simp)
  all_goals have gf : ∀ i, w1.frozen? ⟨w.heap.size + 1, i, none⟩ = false := fun i => (hf.frozenE (p := ⟨w.heap.size + 1, i, none⟩) hs (by simp)).trans (df i)
  all_goals have hs1 : w.heap.size + 1 < w1.heap.size := Nat.lt_of_lt_of_le hs hf.size
  · simp only at h0
    have h0' : (r1 != 0) = true := by simpa using h0
    go_wp2
    refine bodyPost_ret (v := .tuple #[.agg #[.slice none 0 0, .int .i64 0], .int .i64 r1]) ?_ rfl ⟨?_, .inl ⟨h0, rfl⟩⟩
    · simp [results, Tryz.results10, go_sem, hs1, g0, g1]
    · exact ((hfW.trans hf (by simp)).setCell (.inr (by simp)) _).setCell (.inr (by simp)) _
  · simp only at h0
    subst h0
    obtain ⟨hn2, hgood⟩ := hok.out rfl
    have HG := hid hgood
    have hr2 := hid (hr1.out.fr0 hf)
    clear hgood
    go_wp2_with fail
    refine (copied_any cs A cap L w1 hr2.out (by omega) 27 #[] mirF (enters_of Tryz.func27 (by kernel_rfl) rfl) (fun x W' hx hf' => mirror1_any x (HG.out x hx).s W')).mono ?_
    rintro e w2 ⟨A', c', rfl, hf2, hown⟩
    have i0 := hf2.cell g0 (by simp)
    have i1 := hf2.cell g1 (by simp)
    have if' : ∀ i, w2.frozen? ⟨w.heap.size + 1, i, none⟩ = false := fun i => (hf2.frozenE (p := ⟨w.heap.size + 1, i, none⟩) hs1 (by simp)).trans (gf i)
    have hs2 : w.heap.size + 1 < w2.heap.size := Nat.lt_of_lt_of_le hs1 hf2.size
    have HS := hid (show w.heap.size + 2 ≤ w1.heap.size by have := hf.size; have := hsz.out; omega)
    go_wp2
    refine bodyPost_ret (v := .tuple #[.agg #[.slice A' cs.length c', .int .i64 L], .int .i64 0]) ?_ rfl ⟨?_, .inr ⟨rfl, A', c', by simp, ?_⟩⟩
    · simp [results, Tryz.results10, go_sem, hs2, i0, i1]
    · exact (((hfW.trans hf (by simp)).trans hf2 (by simp)).setCell (.inr (by simp)) _).setCell (.inr (by simp)) _
    · have hA : ∀ a, A' = some a → w1.heap.size ≤ a.block := fun a ha => (hown.addr a ha).1
      have hs1 := HS.out
      have h2 := (hown.setCell (p := ⟨w.heap.size + 1, 0, none⟩) (.slice A' cs.length c') (fun a ha => by have := hA a ha; simp; omega)).setCell (p := ⟨w.heap.size + 1, 1, none⟩) (.int .i64 L) (fun a ha => by have := hA a ha; simp; omega)
      simpa using h2.base (by omega)

set_option maxHeartbeats 1000000 in
theorem reflect_any (cs : List Cr) (A : Option Addr) (cap : Nat) (L : Int) (w : World) (hr : Rd w A (crCells cs)) (R : Int × List AE) (hR : enterF cs L = some R) :
    Calls Tryz.prog 11 #[.agg #[.slice A cs.length cap, .int .i64 L]] w (DiaPost w R.1 (cs.map refF) L) := by
  have HR := hid hR
  have hok := hid (enterF_ends hR)
  clear hR
  obtain ⟨W, hW⟩ : ∃ W, W = (w.alloc (.cells #[.slice A cs.length cap, .int .i64 L] 24)).alloc (.cells #[.slice none 0 0, .int .i64 0] 24) := ⟨_, rfl⟩
  have hfW : Fr [] w W := by rw [hW]; exact (Fr.alloc1 _ _).alloc _
  have hr1 := hid (hr.fr0 hfW)
  have c0 : W.cell? ⟨w.heap.size, 0, none⟩ = some (.slice A cs.length cap) := by rw [hW]; go_simp
  have c1 : W.cell? ⟨w.heap.size, 1, none⟩ = some (.int .i64 L) := by rw [hW]; go_simp
  have d0 : W.cell? ⟨w.heap.size + 1, 0, none⟩ = some (.slice none 0 0) := by rw [hW]; go_simp
  have d1 : W.cell? ⟨w.heap.size + 1, 1, none⟩ = some (.int .i64 0) := by rw [hW]; go_simp
  have df : ∀ i, W.frozen? ⟨w.heap.size + 1, i, none⟩ = false := fun i => by rw [hW]; go_simp
  have hs : w.heap.size + 1 < W.heap.size := by rw [hW]; simp
  have hsz := hid (show W.heap.size = w.heap.size + 2 by rw [hW]; simp)
  obtain ⟨r1, l⟩ := R
  simp only
  go_enter Tryz.func11, Tryz.ntmps11
  go_wp2_with fail
  rw [← hW]
  clear hW
  refine (enter_any cs A cap L _ hr1.out _ HR.out).mono ?_
  rintro e w1 ⟨hf, ⟨h0, rfl⟩ | ⟨h0, q, B, rfl, hD⟩⟩
  all_goals have e0 := hf.cell c0 (by simp)
  all_goals have e1 := hf.cell c1 (by simp)
  all_goals have g0 := hf.cell d0 (by simp)
  all_goals have g1 := hf.cell d1 (by simp)
  all_goals have gf : ∀ i, w1.frozen? ⟨w.heap.size + 1, i, none⟩ = false := fun i => (hf.frozenE (p := ⟨w.heap.size + 1, i, none⟩) hs (by simp)).trans (df i)
  all_goals have hs1 : w.heap.size + 1 < w1.heap.size := Nat.lt_of_lt_of_le hs hf.size
  · simp only at h0
    have h0' : (r1 != 0) = true := by simpa using h0
    go_wp2
    refine bodyPost_ret (v := .tuple #[.agg #[.slice none 0 0, .int .i64 0], .int .i64 r1]) ?_ rfl ⟨?_, .inl ⟨h0, rfl⟩⟩
    · simp [results, Tryz.results11, go_sem, hs1, g0, g1]
    · exact ((hfW.trans hf (by simp)).setCell (.inr (by simp)) _).setCell (.inr (by simp)) _
  · simp only at h0
    subst h0
    obtain ⟨hn2, hgood⟩ := hok.out rfl
    have HG := hid hgood
    have hr2 := hid (hr1.out.fr0 hf)
    clear hgood
    go_wp2_with fail
    refine (copied_any cs A cap L w1 hr2.out (by omega) 29 #[] refF (enters_of Tryz.func29 (by kernel_rfl) rfl) (fun x W' hx hf' => reflect1_any x (HG.out x hx).s W')).mono ?_
    rintro e w2 ⟨A', c', rfl, hf2, hown⟩
    have i0 := hf2.cell g0 (by simp)
    have i1 := hf2.cell g1 (by simp)
    have if' : ∀ i, w2.frozen? ⟨w.heap.size + 1, i, none⟩ = false := fun i => (hf2.frozenE (p := ⟨w.heap.size + 1, i, none⟩) hs1 (by simp)).trans (gf i)
    have hs2 : w.heap.size + 1 < w2.heap.size := Nat.lt_of_lt_of_le hs1 hf2.size
    have HS := hid (show w.heap.size + 2 ≤ w1.heap.size by have := hf.size; have := hsz.out; omega)
    go_wp2
    refine bodyPost_ret (v := .tuple #[.agg #[.slice A' cs.length c', .int .i64 L], .int .i64 0]) ?_ rfl ⟨?_, .inr ⟨rfl, A', c', by simp, ?_⟩⟩
    · simp [results, Tryz.results11, go_sem, hs2, i0, i1]
    · exact (((hfW.trans hf (by simp)).trans hf2 (by simp)).setCell (.inr (by simp)) _).setCell (.inr (by simp)) _
    · have hA : ∀ a, A' = some a → w1.heap.size ≤ a.block := fun a ha => (hown.addr a ha).1
      have hs1 := HS.out
      have h2 := (hown.setCell (p := ⟨w.heap.size + 1, 0, none⟩) (.slice A' cs.length c') (fun a ha => by have := hA a ha; simp; omega)).setCell (p := ⟨w.heap.size + 1, 1, none⟩) (.int .i64 L) (fun a ha => by have := hA a ha; simp; omega)
      simpa using h2.base (by omega)
end Go.Proofs.YtjmgjkcjnjlpdaaGreatDoor

/-! ## D17 -/
namespace Go.Proofs.YtjmgjkcjnjlpdaaGreatDoor
open Go.RowKit

/-! ### components: every arc has a number -/
theorem compB_keeps {cs : List Cr} {l : List AE} {n : Nat} : ∀ {f b : Nat} {of of' : List Int}, compB cs l n f b of = some of' →
    of'.length = of.length ∧ (∀ (i : Nat) (v : Int), of[i]? = some v → 0 ≤ v → of'[i]? = some v) ∧ (∀ (i : Nat) (v : Int), of'[i]? = some v → of[i]? = some v ∨ v = n)
  | 0, _, _, _, h => by cases h
  | f + 1, b, of, of', h => by
    unfold compB at h
    split at h
    · cases h
    · rename_i v hv
      split at h
      · rename_i hneg
        split at h
        · cases h
        · split at h
          · obtain ⟨h1, h2, h3⟩ := compB_keeps h
            refine ⟨by simpa using h1, fun i u hi hu => h2 i u ?_ hu, fun i u hi => ?_⟩
            · by_cases hb : b = i
              · subst hb; rw [hv] at hi; simp at hi; omega
              · rw [List.getElem?_set_ne hb]; exact hi
            · rcases h3 i u hi with h4 | h4
              · by_cases hb : b = i
                · subst hb
                  rw [List.getElem?_set] at h4
                  simp at h4
                  exact .inr h4.2.symm
                · rw [List.getElem?_set_ne hb] at h4; exact .inl h4
              · exact .inr h4
          · cases h
      · cases h
        exact ⟨rfl, fun _ _ h _ => h, fun _ _ h => .inl h⟩

theorem compB_first {cs : List Cr} {l : List AE} {n : Nat} {f b : Nat} {of of' : List Int} (h : compB cs l n f b of = some of') : ∃ v, of'[b]? = some v ∧ 0 ≤ v := by
  cases f with
  | zero => cases h
  | succ f =>
    unfold compB at h
    split at h
    · cases h
    · rename_i v hv
      split at h
      · split at h
        · cases h
        · split at h
          · obtain ⟨_, h2, _⟩ := compB_keeps h
            have hlt := (List.getElem?_eq_some_iff.1 hv).1
            exact ⟨n, h2 b n (by rw [List.getElem?_set_self hlt]) (by omega), by omega⟩
          · cases h
      · cases h
        exact ⟨v, hv, by omega⟩

theorem comps_all {cs : List Cr} {l : List AE} : ∀ {is : List Nat} {of : List Int} {n : Nat} {of' : List Int} {n' : Nat}, comps cs l is of n = some (of', n') → (∀ (i : Nat) (v : Int), of[i]? = some v → v < n) →
    of'.length = of.length ∧ (∀ (i : Nat) (v : Int), of'[i]? = some v → v < n') ∧ (∀ (i : Nat) (v : Int), of[i]? = some v → 0 ≤ v → of'[i]? = some v) ∧ ∀ i ∈ is, ∃ v, of'[i]? = some v ∧ 0 ≤ v
  | [], of, n, of', n', h, hn => by cases h; exact ⟨rfl, hn, fun _ _ h _ => h, by simp⟩
  | a :: r, of, n, of', n', h, hn => by
    simp only [comps] at h
    split at h
    · cases h
    · rename_i v hv
      split at h
      · rename_i h0
        obtain ⟨h1, h2, h3, h4⟩ := comps_all h hn
        refine ⟨h1, h2, h3, fun i hi => ?_⟩
        rcases List.mem_cons.1 hi with rfl | hi
        · exact ⟨v, h3 _ _ hv h0, h0⟩
        · exact h4 i hi
      · obtain ⟨of1, hb, h⟩ := Option.bind_eq_some_iff.1 h
        obtain ⟨k1, k2, k3⟩ := compB_keeps hb
        obtain ⟨h1, h2, h3, h4⟩ := comps_all h (fun i v hi => by
          rcases k3 i v hi with h | h
          · have := hn i v h; omega
          · omega)
        refine ⟨h1.trans k1, h2, fun i v hi h0 => h3 i v (k2 i v hi h0) h0, fun i hi => ?_⟩
        rcases List.mem_cons.1 hi with rfl | hi
        · obtain ⟨u, hu, hu0⟩ := compB_first hb
          exact ⟨u, h3 _ _ hu hu0, hu0⟩
        · exact h4 i hi

theorem componentsF_all {cs : List Cr} {l : List AE} {of : List Int} {n : Nat} (h : componentsF cs l = some (of, n)) : of.length = l.length ∧ ∀ (i : Nat), i < l.length → ∃ v : Nat, of[i]? = some (v : Int) ∧ v < n := by
  obtain ⟨h1, h2, _, h4⟩ := comps_all h (fun i v hi => by
    rw [List.getElem?_replicate] at hi
    split at hi <;> simp at hi
    omega)
  refine ⟨by simpa using h1, fun i hi => ?_⟩
  obtain ⟨v, hv, h0⟩ := h4 i (by simpa using hi)
  obtain ⟨k, rfl⟩ := Int.eq_ofNat_of_zero_le h0
  exact ⟨k, hv, by have := h2 i _ hv; omega⟩

def bools (l : List Bool) : List Value := l.map .bool

/-- what Reverse's closure reads -/
structure RevAt (w : World) (zi zo gi go : Nat) (bs : List Bool) (of : List Int) : Prop where
  c0 : w.cell? ⟨zi, 0, none⟩ = some (.slice (some ⟨gi, 0, none⟩) bs.length bs.length)
  c1 : w.cell? ⟨zo, 0, none⟩ = some (.slice (some ⟨go, 0, none⟩) of.length of.length)
  ri : RowAt w gi 4 (bools bs)
  ro : RowAt w go 3 (ints of)

theorem RevAt.fr {w w' : World} {zi zo gi go : Nat} {bs : List Bool} {of : List Int} (h : RevAt w zi zo gi go bs of) (hf : Fr [] w w') : RevAt w' zi zo gi go bs of :=
  ⟨hf.cell h.c0 (by simp), hf.cell h.c1 (by simp), h.ri.fr hf (by simp), h.ro.fr hf (by simp)⟩

set_option maxHeartbeats 1000000 in
theorem reverse1_any (x : Cr) (w : World) (zi zo gi go : Nat) (bs : List Bool) (of : List Int) (h : RevAt w zi zo gi go bs of) (xa xb : Nat) (ha : x.a = xa) (hb : x.b = xb) (ka kb : Nat) (hka : of[xa]? = some (ka : Int)) (hkb : of[xb]? = some (kb : Int)) (lo up : Bool) (hlo : bs[ka]? = some lo) (hup : bs[kb]? = some up) (hs : -1 ≤ x.s ∧ x.s ≤ 1) (hn : of.length ≤ 400) (hn2 : bs.length ≤ 1000) :
    Calls Tryz.prog 30 #[.agg #[.int .i64 x.a, .int .i64 x.b, .int .i64 x.c, .int .i64 x.d, .int .i64 x.s], .pointer (some ⟨zi, 0, none⟩), .pointer (some ⟨zo, 0, none⟩)] w fun e w' =>
      e = .returned (if lo then turnF (if lo != up then { x with s := -x.s } else x) 2 else (if lo != up then { x with s := -x.s } else x)).val ∧ Fr [] w w' := by
  obtain ⟨a, b, c, d, s⟩ := x
  simp only at ha hb hs
  subst ha hb
  obtain ⟨hs0, hs1⟩ := hs
  have c0 := h.c0
  have c1 := h.c1
  have hxa : xa < of.length := (List.getElem?_eq_some_iff.1 hka).1
  have hxb : xb < of.length := (List.getElem?_eq_some_iff.1 hkb).1
  have hla : ka < bs.length := (List.getElem?_eq_some_iff.1 hlo).1
  have hlb : kb < bs.length := (List.getElem?_eq_some_iff.1 hup).1
  have o0 : w.cell? ⟨go, xa, none⟩ = some (.int .i64 ka) := by rw [h.ro.cell]; exact ints_get hka
  have o1 : w.cell? ⟨go, xb, none⟩ = some (.int .i64 kb) := by rw [h.ro.cell]; exact ints_get hkb
  have i0 : w.cell? ⟨gi, ka, none⟩ = some (.bool lo) := by rw [h.ri.cell]; simp [bools, hlo]
  have i1 : w.cell? ⟨gi, kb, none⟩ = some (.bool up) := by rw [h.ri.cell]; simp [bools, hup]
  have hg1 := h.ri.lt
  have hg2 := h.ro.lt
  have hz1 : zi < w.heap.size := by
    rcases Nat.lt_or_ge zi w.heap.size with h1 | h1
    · exact h1
    · simp [World.cell?, Array.getElem?_eq_none h1] at c0
  have hz2 : zo < w.heap.size := by
    rcases Nat.lt_or_ge zo w.heap.size with h1 | h1
    · exact h1
    · simp [World.cell?, Array.getElem?_eq_none h1] at c1
  clear hka hkb hlo hup h
  cases lo <;> cases up
  · have h5 : ∀ {W : World} {g : Nat} {u0 u1 u2 u3 u4 : Value}, Fr [] w W → w.heap.size ≤ g → Fr [] w (((((W.setCell ⟨g, 0, none⟩ u0).setCell ⟨g, 1, none⟩ u1).setCell ⟨g, 2, none⟩ u2).setCell ⟨g, 3, none⟩ u3).setCell ⟨g, 4, none⟩ u4) := fun hf hg =>
      ((((hf.setCell (.inr hg) _).setCell (.inr hg) _).setCell (.inr hg) _).setCell (.inr hg) _).setCell (.inr hg) _
    go_enter Tryz.func30, Tryz.ntmps30
    go_wp2
    go_quiet (fail)
    obtain ⟨W, hW⟩ : ∃ W, W = ((w.alloc (.cells #[.int .i64 xa, .int .i64 xb, .int .i64 c, .int .i64 d, .int .i64 s] 54)).alloc (.cells #[.int .i64 0, .int .i64 0, .int .i64 0, .int .i64 0, .int .i64 0] 54)).drewN nq := ⟨_, rfl⟩
    have hfW : Fr [] w W := by rw [hW]; exact ((Fr.alloc1 _ _).alloc _).drewN _
    have x0 : W.cell? ⟨w.heap.size, 0, none⟩ = some (.int .i64 xa) := by rw [hW]; go_simp
    have x1 : W.cell? ⟨w.heap.size, 1, none⟩ = some (.int .i64 xb) := by rw [hW]; go_simp
    have x2 : W.cell? ⟨w.heap.size, 2, none⟩ = some (.int .i64 c) := by rw [hW]; go_simp
    have x3 : W.cell? ⟨w.heap.size, 3, none⟩ = some (.int .i64 d) := by rw [hW]; go_simp
    have x4 : W.cell? ⟨w.heap.size, 4, none⟩ = some (.int .i64 s) := by rw [hW]; go_simp
    have xf : ∀ i, W.frozen? ⟨w.heap.size, i, none⟩ = false := fun i => by rw [hW]; go_simp
    have y0 : W.cell? ⟨w.heap.size + 1, 0, none⟩ = some (.int .i64 0) := by rw [hW]; go_simp
    have y1 : W.cell? ⟨w.heap.size + 1, 1, none⟩ = some (.int .i64 0) := by rw [hW]; go_simp
    have y2 : W.cell? ⟨w.heap.size + 1, 2, none⟩ = some (.int .i64 0) := by rw [hW]; go_simp
    have y3 : W.cell? ⟨w.heap.size + 1, 3, none⟩ = some (.int .i64 0) := by rw [hW]; go_simp
    have y4 : W.cell? ⟨w.heap.size + 1, 4, none⟩ = some (.int .i64 0) := by rw [hW]; go_simp
    have yf : ∀ i, W.frozen? ⟨w.heap.size + 1, i, none⟩ = false := fun i => by rw [hW]; go_simp
    have hs2 : w.heap.size + 1 < W.heap.size := by rw [hW]; simp
    have hs1 : w.heap.size < W.heap.size := by omega
    rw [← hW]
    clear hW
    go_wp2
    refine bodyPost_ret (v := .agg #[_, _, _, _, _]) ?_ rfl ⟨rfl, ?_⟩
    · simp [results, Tryz.results30, go_sem, x0, x1, x2, x3, x4, y0, y1, y2, y3, y4, hs1, hs2]
    · refine h5 ?_ (by simp)
      exact hfW
  · have h5 : ∀ {W : World} {g : Nat} {u0 u1 u2 u3 u4 : Value}, Fr [] w W → w.heap.size ≤ g → Fr [] w (((((W.setCell ⟨g, 0, none⟩ u0).setCell ⟨g, 1, none⟩ u1).setCell ⟨g, 2, none⟩ u2).setCell ⟨g, 3, none⟩ u3).setCell ⟨g, 4, none⟩ u4) := fun hf hg =>
      ((((hf.setCell (.inr hg) _).setCell (.inr hg) _).setCell (.inr hg) _).setCell (.inr hg) _).setCell (.inr hg) _
    go_enter Tryz.func30, Tryz.ntmps30
    go_wp2
    go_quiet (fail)
    obtain ⟨W, hW⟩ : ∃ W, W = ((w.alloc (.cells #[.int .i64 xa, .int .i64 xb, .int .i64 c, .int .i64 d, .int .i64 s] 54)).alloc (.cells #[.int .i64 0, .int .i64 0, .int .i64 0, .int .i64 0, .int .i64 0] 54)).drewN nq := ⟨_, rfl⟩
    have hfW : Fr [] w W := by rw [hW]; exact ((Fr.alloc1 _ _).alloc _).drewN _
    have x0 : W.cell? ⟨w.heap.size, 0, none⟩ = some (.int .i64 xa) := by rw [hW]; go_simp
    have x1 : W.cell? ⟨w.heap.size, 1, none⟩ = some (.int .i64 xb) := by rw [hW]; go_simp
    have x2 : W.cell? ⟨w.heap.size, 2, none⟩ = some (.int .i64 c) := by rw [hW]; go_simp
    have x3 : W.cell? ⟨w.heap.size, 3, none⟩ = some (.int .i64 d) := by rw [hW]; go_simp
    have x4 : W.cell? ⟨w.heap.size, 4, none⟩ = some (.int .i64 s) := by rw [hW]; go_simp
    have xf : ∀ i, W.frozen? ⟨w.heap.size, i, none⟩ = false := fun i => by rw [hW]; go_simp
    have y0 : W.cell? ⟨w.heap.size + 1, 0, none⟩ = some (.int .i64 0) := by rw [hW]; go_simp
    have y1 : W.cell? ⟨w.heap.size + 1, 1, none⟩ = some (.int .i64 0) := by rw [hW]; go_simp
    have y2 : W.cell? ⟨w.heap.size + 1, 2, none⟩ = some (.int .i64 0) := by rw [hW]; go_simp
    have y3 : W.cell? ⟨w.heap.size + 1, 3, none⟩ = some (.int .i64 0) := by rw [hW]; go_simp
    have y4 : W.cell? ⟨w.heap.size + 1, 4, none⟩ = some (.int .i64 0) := by rw [hW]; go_simp
    have yf : ∀ i, W.frozen? ⟨w.heap.size + 1, i, none⟩ = false := fun i => by rw [hW]; go_simp
    have hs2 : w.heap.size + 1 < W.heap.size := by rw [hW]; simp
    have hs1 : w.heap.size < W.heap.size := by omega
    rw [← hW]
    clear hW
    go_wp2
    refine bodyPost_ret (v := .agg #[_, _, _, _, _]) ?_ rfl ⟨rfl, ?_⟩
    · simp [results, Tryz.results30, go_sem, x0, x1, x2, x3, x4, y0, y1, y2, y3, y4, hs1, hs2]
    · refine h5 ?_ (by simp)
      exact hfW.setCell (.inr (by simp)) _
  · have h5 : ∀ {W : World} {g : Nat} {u0 u1 u2 u3 u4 : Value}, Fr [] w W → w.heap.size ≤ g → Fr [] w (((((W.setCell ⟨g, 0, none⟩ u0).setCell ⟨g, 1, none⟩ u1).setCell ⟨g, 2, none⟩ u2).setCell ⟨g, 3, none⟩ u3).setCell ⟨g, 4, none⟩ u4) := fun hf hg =>
      ((((hf.setCell (.inr hg) _).setCell (.inr hg) _).setCell (.inr hg) _).setCell (.inr hg) _).setCell (.inr hg) _
    go_enter Tryz.func30, Tryz.ntmps30
    go_wp2
    go_quiet (fail)
    obtain ⟨W, hW⟩ : ∃ W, W = ((w.alloc (.cells #[.int .i64 xa, .int .i64 xb, .int .i64 c, .int .i64 d, .int .i64 s] 54)).alloc (.cells #[.int .i64 0, .int .i64 0, .int .i64 0, .int .i64 0, .int .i64 0] 54)).drewN nq := ⟨_, rfl⟩
    have hfW : Fr [] w W := by rw [hW]; exact ((Fr.alloc1 _ _).alloc _).drewN _
    have x0 : W.cell? ⟨w.heap.size, 0, none⟩ = some (.int .i64 xa) := by rw [hW]; go_simp
    have x1 : W.cell? ⟨w.heap.size, 1, none⟩ = some (.int .i64 xb) := by rw [hW]; go_simp
    have x2 : W.cell? ⟨w.heap.size, 2, none⟩ = some (.int .i64 c) := by rw [hW]; go_simp
    have x3 : W.cell? ⟨w.heap.size, 3, none⟩ = some (.int .i64 d) := by rw [hW]; go_simp
    have x4 : W.cell? ⟨w.heap.size, 4, none⟩ = some (.int .i64 s) := by rw [hW]; go_simp
    have xf : ∀ i, W.frozen? ⟨w.heap.size, i, none⟩ = false := fun i => by rw [hW]; go_simp
    have y0 : W.cell? ⟨w.heap.size + 1, 0, none⟩ = some (.int .i64 0) := by rw [hW]; go_simp
    have y1 : W.cell? ⟨w.heap.size + 1, 1, none⟩ = some (.int .i64 0) := by rw [hW]; go_simp
    have y2 : W.cell? ⟨w.heap.size + 1, 2, none⟩ = some (.int .i64 0) := by rw [hW]; go_simp
    have y3 : W.cell? ⟨w.heap.size + 1, 3, none⟩ = some (.int .i64 0) := by rw [hW]; go_simp
    have y4 : W.cell? ⟨w.heap.size + 1, 4, none⟩ = some (.int .i64 0) := by rw [hW]; go_simp
    have yf : ∀ i, W.frozen? ⟨w.heap.size + 1, i, none⟩ = false := fun i => by rw [hW]; go_simp
    have hs2 : w.heap.size + 1 < W.heap.size := by rw [hW]; simp
    have hs1 : w.heap.size < W.heap.size := by omega
    rw [← hW]
    clear hW
    have ht : ∀ W, Calls Tryz.prog 28 #[.agg #[.int .i64 xa, .int .i64 xb, .int .i64 c, .int .i64 d], .int .i64 2] W fun e w' => e = .returned (.agg #[.int .i64 c, .int .i64 d, .int .i64 xa, .int .i64 xb]) ∧ Fr [] W w' := fun W => turned_any ⟨xa, xb, c, d, s⟩ 2 (by omega) W
    go_wp2_with (go_at_call 28; refine (ht _).mono ?_; rintro e w1 ⟨rfl, hf⟩; have z0 := hf.cell (p := ⟨w.heap.size, 0, none⟩) (v := .int .i64 xa) (by go_simp) (by simp); have z1 := hf.cell (p := ⟨w.heap.size, 1, none⟩) (v := .int .i64 xb) (by go_simp) (by simp); have z2 := hf.cell (p := ⟨w.heap.size, 2, none⟩) (v := .int .i64 c) (by go_simp) (by simp); have z3 := hf.cell (p := ⟨w.heap.size, 3, none⟩) (v := .int .i64 d) (by go_simp) (by simp); have z4 := hf.cell (p := ⟨w.heap.size, 4, none⟩) (v := .int .i64 (-s)) (by go_simp) (by simp); have zf : ∀ i, w1.frozen? ⟨w.heap.size, i, none⟩ = false := fun i => (hf.frozenE (p := ⟨w.heap.size, i, none⟩) (by go_simp) (by simp)).trans (by go_simp); have v0 := hf.cell (p := ⟨w.heap.size + 1, 0, none⟩) (v := .int .i64 0) (by go_simp) (by simp); have v1 := hf.cell (p := ⟨w.heap.size + 1, 1, none⟩) (v := .int .i64 0) (by go_simp) (by simp); have v2 := hf.cell (p := ⟨w.heap.size + 1, 2, none⟩) (v := .int .i64 0) (by go_simp) (by simp); have v3 := hf.cell (p := ⟨w.heap.size + 1, 3, none⟩) (v := .int .i64 0) (by go_simp) (by simp); have v4 := hf.cell (p := ⟨w.heap.size + 1, 4, none⟩) (v := .int .i64 0) (by go_simp) (by simp); have vf : ∀ i, w1.frozen? ⟨w.heap.size + 1, i, none⟩ = false := fun i => (hf.frozenE (p := ⟨w.heap.size + 1, i, none⟩) (by go_simp) (by simp)).trans (by go_simp); have hl1 : w.heap.size < w1.heap.size := Nat.lt_of_lt_of_le (by go_simp) hf.size; have hl2 : w.heap.size + 1 < w1.heap.size := Nat.lt_of_lt_of_le (by go_simp) hf.size)
    refine bodyPost_ret (v := .agg #[_, _, _, _, _]) ?_ rfl ⟨rfl, ?_⟩
    · simp [results, Tryz.results30, go_sem, turnF, Cr.arc, z4, v0, v1, v2, v3, v4, hl1, hl2]
    · refine h5 ((((Fr.setCell ?_ (.inr ?_) _).setCell (.inr ?_) _).setCell (.inr ?_) _).setCell (.inr ?_) _) (by simp)
      · exact Fr.trans (S' := []) (by first | exact hfW | exact hfW.setCell (.inr (by simp)) _) hf (by simp)
      all_goals simp
  · have h5 : ∀ {W : World} {g : Nat} {u0 u1 u2 u3 u4 : Value}, Fr [] w W → w.heap.size ≤ g → Fr [] w (((((W.setCell ⟨g, 0, none⟩ u0).setCell ⟨g, 1, none⟩ u1).setCell ⟨g, 2, none⟩ u2).setCell ⟨g, 3, none⟩ u3).setCell ⟨g, 4, none⟩ u4) := fun hf hg =>
      ((((hf.setCell (.inr hg) _).setCell (.inr hg) _).setCell (.inr hg) _).setCell (.inr hg) _).setCell (.inr hg) _
    go_enter Tryz.func30, Tryz.ntmps30
    go_wp2
    go_quiet (fail)
    obtain ⟨W, hW⟩ : ∃ W, W = ((w.alloc (.cells #[.int .i64 xa, .int .i64 xb, .int .i64 c, .int .i64 d, .int .i64 s] 54)).alloc (.cells #[.int .i64 0, .int .i64 0, .int .i64 0, .int .i64 0, .int .i64 0] 54)).drewN nq := ⟨_, rfl⟩
    have hfW : Fr [] w W := by rw [hW]; exact ((Fr.alloc1 _ _).alloc _).drewN _
    have x0 : W.cell? ⟨w.heap.size, 0, none⟩ = some (.int .i64 xa) := by rw [hW]; go_simp
    have x1 : W.cell? ⟨w.heap.size, 1, none⟩ = some (.int .i64 xb) := by rw [hW]; go_simp
    have x2 : W.cell? ⟨w.heap.size, 2, none⟩ = some (.int .i64 c) := by rw [hW]; go_simp
    have x3 : W.cell? ⟨w.heap.size, 3, none⟩ = some (.int .i64 d) := by rw [hW]; go_simp
    have x4 : W.cell? ⟨w.heap.size, 4, none⟩ = some (.int .i64 s) := by rw [hW]; go_simp
    have xf : ∀ i, W.frozen? ⟨w.heap.size, i, none⟩ = false := fun i => by rw [hW]; go_simp
    have y0 : W.cell? ⟨w.heap.size + 1, 0, none⟩ = some (.int .i64 0) := by rw [hW]; go_simp
    have y1 : W.cell? ⟨w.heap.size + 1, 1, none⟩ = some (.int .i64 0) := by rw [hW]; go_simp
    have y2 : W.cell? ⟨w.heap.size + 1, 2, none⟩ = some (.int .i64 0) := by rw [hW]; go_simp
    have y3 : W.cell? ⟨w.heap.size + 1, 3, none⟩ = some (.int .i64 0) := by rw [hW]; go_simp
    have y4 : W.cell? ⟨w.heap.size + 1, 4, none⟩ = some (.int .i64 0) := by rw [hW]; go_simp
    have yf : ∀ i, W.frozen? ⟨w.heap.size + 1, i, none⟩ = false := fun i => by rw [hW]; go_simp
    have hs2 : w.heap.size + 1 < W.heap.size := by rw [hW]; simp
    have hs1 : w.heap.size < W.heap.size := by omega
    rw [← hW]
    clear hW
    have ht : ∀ W, Calls Tryz.prog 28 #[.agg #[.int .i64 xa, .int .i64 xb, .int .i64 c, .int .i64 d], .int .i64 2] W fun e w' => e = .returned (.agg #[.int .i64 c, .int .i64 d, .int .i64 xa, .int .i64 xb]) ∧ Fr [] W w' := fun W => turned_any ⟨xa, xb, c, d, s⟩ 2 (by omega) W
    go_wp2_with (go_at_call 28; refine (ht _).mono ?_; rintro e w1 ⟨rfl, hf⟩; have z0 := hf.cell (p := ⟨w.heap.size, 0, none⟩) (v := .int .i64 xa) (by go_simp) (by simp); have z1 := hf.cell (p := ⟨w.heap.size, 1, none⟩) (v := .int .i64 xb) (by go_simp) (by simp); have z2 := hf.cell (p := ⟨w.heap.size, 2, none⟩) (v := .int .i64 c) (by go_simp) (by simp); have z3 := hf.cell (p := ⟨w.heap.size, 3, none⟩) (v := .int .i64 d) (by go_simp) (by simp); have z4 := hf.cell (p := ⟨w.heap.size, 4, none⟩) (v := .int .i64 s) (by go_simp) (by simp); have zf : ∀ i, w1.frozen? ⟨w.heap.size, i, none⟩ = false := fun i => (hf.frozenE (p := ⟨w.heap.size, i, none⟩) (by go_simp) (by simp)).trans (by go_simp); have v0 := hf.cell (p := ⟨w.heap.size + 1, 0, none⟩) (v := .int .i64 0) (by go_simp) (by simp); have v1 := hf.cell (p := ⟨w.heap.size + 1, 1, none⟩) (v := .int .i64 0) (by go_simp) (by simp); have v2 := hf.cell (p := ⟨w.heap.size + 1, 2, none⟩) (v := .int .i64 0) (by go_simp) (by simp); have v3 := hf.cell (p := ⟨w.heap.size + 1, 3, none⟩) (v := .int .i64 0) (by go_simp) (by simp); have v4 := hf.cell (p := ⟨w.heap.size + 1, 4, none⟩) (v := .int .i64 0) (by go_simp) (by simp); have vf : ∀ i, w1.frozen? ⟨w.heap.size + 1, i, none⟩ = false := fun i => (hf.frozenE (p := ⟨w.heap.size + 1, i, none⟩) (by go_simp) (by simp)).trans (by go_simp); have hl1 : w.heap.size < w1.heap.size := Nat.lt_of_lt_of_le (by go_simp) hf.size; have hl2 : w.heap.size + 1 < w1.heap.size := Nat.lt_of_lt_of_le (by go_simp) hf.size)
    refine bodyPost_ret (v := .agg #[_, _, _, _, _]) ?_ rfl ⟨rfl, ?_⟩
    · simp [results, Tryz.results30, go_sem, turnF, Cr.arc, z4, v0, v1, v2, v3, v4, hl1, hl2]
    · refine h5 ((((Fr.setCell ?_ (.inr ?_) _).setCell (.inr ?_) _).setCell (.inr ?_) _).setCell (.inr ?_) _) (by simp)
      · exact Fr.trans (S' := []) (by first | exact hfW | exact hfW.setCell (.inr (by simp)) _) hf (by simp)
      all_goals simp
end Go.Proofs.YtjmgjkcjnjlpdaaGreatDoor

/-! ## D18 -/
namespace Go.Proofs.YtjmgjkcjnjlpdaaGreatDoor
open Go.RowKit

def revF (bs : List Bool) (of : List Int) (x : Cr) : Cr :=
  let lo := (bs[((of[x.a.toNat]?).getD 0).toNat]?).getD false
  let up := (bs[((of[x.b.toNat]?).getD 0).toNat]?).getD false
  if lo then turnF (if lo != up then { x with s := -x.s } else x) 2 else (if lo != up then { x with s := -x.s } else x)

theorem reverse1_rev (x : Cr) (w : World) (zi zo gi go : Nat) (bs : List Bool) (of : List Int) (n N : Nat) (h : RevAt w zi zo gi go bs of) (hx : CrOk N x) (hN : of.length = 2 * N) (ho : ∀ (i : Nat), i < of.length → ∃ v : Nat, of[i]? = some (v : Int) ∧ v < n) (hb : n ≤ bs.length) (hn : of.length ≤ 400) (hn2 : bs.length ≤ 1000) :
    Calls Tryz.prog 30 (#[x.val] ++ #[.pointer (some ⟨zi, 0, none⟩), .pointer (some ⟨zo, 0, none⟩)]) w fun e w' => e = .returned (revF bs of x).val ∧ Fr [] w w' := by
  obtain ⟨xa, ha⟩ := Int.eq_ofNat_of_zero_le hx.a0
  obtain ⟨xb, hb'⟩ := Int.eq_ofNat_of_zero_le hx.b0
  have a1 := hx.a1
  have b1 := hx.b1
  rw [ha] at a1
  rw [hb'] at b1
  obtain ⟨ka, hka, hka'⟩ := ho xa (by omega)
  obtain ⟨kb, hkb, hkb'⟩ := ho xb (by omega)
  have h1 : bs[ka]? = some (bs[ka]'(by omega)) := List.getElem?_eq_getElem _
  have h2 : bs[kb]? = some (bs[kb]'(by omega)) := List.getElem?_eq_getElem _
  have := reverse1_any x w zi zo gi go bs of h xa xb ha hb' ka kb hka hkb _ _ h1 h2 (by have := hx.s; omega) hn hn2
  refine Calls.mono this ?_
  rintro e w' ⟨rfl, hf⟩
  refine ⟨?_, hf⟩
  unfold revF
  simp only [ha, hb', Int.toNat_natCast, hka, hkb, Option.getD_some, h1, h2]

set_option maxHeartbeats 2000000 in
set_option maxRecDepth 100000 in
theorem reverse_any (cs : List Cr) (A : Option Addr) (cap : Nat) (L : Int) (ks : List Int) (X : Option Addr) (capX : Nat) (w : World) (hr : Rd w A (crCells cs)) (hX : Rd w X (ints ks)) (hks : ks.length ≤ 140737488355328)
    (R : Int × List AE) (hR : enterF cs L = some R) (of : List Int) (n : Nat) (hC : R.1 = 0 → componentsF cs R.2 = some (of, n)) :
    Calls Tryz.prog 12 #[.agg #[.slice A cs.length cap, .int .i64 L], .slice X ks.length capX] w (Quiet w) := by
  have HR := hid hR
  have hok := hid (enterF_ok hR)
  have HC := hid hC
  have hmf : ∀ (fn : Fn) (first cap : Array Value) (w : World), (Instr.makeFunc fn first cap).run Tryz.prog w = .ok (.func fn first cap) w := fun _ _ _ _ => rfl
  clear hR hC
  obtain ⟨W, hW⟩ : ∃ W, W = (w.alloc (.cells #[.slice A cs.length cap, .int .i64 L] 24)).alloc (.cells #[.slice none 0 0, .int .i64 0] 24) := ⟨_, rfl⟩
  have hfW : Fr [] w W := by rw [hW]; exact (Fr.alloc1 _ _).alloc _
  have hr1 := hid (hr.fr0 hfW)
  have c0 : W.cell? ⟨w.heap.size, 0, none⟩ = some (.slice A cs.length cap) := by rw [hW]; go_simp
  have c1 : W.cell? ⟨w.heap.size, 1, none⟩ = some (.int .i64 L) := by rw [hW]; go_simp
  have d0 : W.cell? ⟨w.heap.size + 1, 0, none⟩ = some (.slice none 0 0) := by rw [hW]; go_simp
  have d1 : W.cell? ⟨w.heap.size + 1, 1, none⟩ = some (.int .i64 0) := by rw [hW]; go_simp
  have df : ∀ i, W.frozen? ⟨w.heap.size + 1, i, none⟩ = false := fun i => by rw [hW]; go_simp
  have hs : w.heap.size + 1 < W.heap.size := by rw [hW]; simp
  obtain ⟨r1, l⟩ := R
  go_enter Tryz.func12, Tryz.ntmps12
  go_wp2_with fail
  rw [← hW]
  clear hW
  refine (enter_any cs A cap L _ hr1.out _ HR.out).mono ?_
  rintro e w1 ⟨hf, ⟨h0, rfl⟩ | ⟨h0, q, B, rfl, hD⟩⟩
  all_goals have e0 := hf.cell c0 (by simp)
  all_goals have e1 := hf.cell c1 (by simp)
  all_goals have g0 := hf.cell d0 (by simp)
  all_goals have g1 := hf.cell d1 (by simp)
  all_goals have gf : ∀ i, w1.frozen? ⟨w.heap.size + 1, i, none⟩ = false := fun i => (hf.frozenE (p := ⟨w.heap.size + 1, i, none⟩) hs (by simp)).trans (df i)
  all_goals have hs1 : w.heap.size + 1 < w1.heap.size := Nat.lt_of_lt_of_le hs hf.size
  · simp only at h0
    have h0' : (r1 != 0) = true := by simpa using h0
    go_wp2
    refine bodyPost_ret (v := .tuple #[.agg #[.slice none 0 0, .int .i64 0], .int .i64 r1]) ?_ rfl (.of _ rfl ?_)
    · simp [results, Tryz.results12, go_sem, hs1, g0, g1]
    · exact ((hfW.trans hf (by simp)).setCell (.inr (by simp)) _).setCell (.inr (by simp)) _
  · simp only at h0
    subst h0
    have hok' := hok.out rfl
    have hc := HC.out rfl
    have hgood := endsF_ok hok'
    have hall := componentsF_all hc
    obtain ⟨hn2, hll, hL0, hL1⟩ := endsF_len hok'
    have HLL := hid hll
    have hl4 : l.length ≤ 400 := by omega
    clear hll
    have hcn : n ≤ l.length := by have := hc; unfold componentsF at this; have := comps_le this; simp at this; omega
    have HCC := hid hc
    have HG := hid hgood
    have HA := hid hall
    clear hc hok' hgood hall
    obtain ⟨Ln, rfl⟩ := Int.eq_ofNat_of_zero_le hL0
    have hr2 := hid (hr1.out.fr0 hf)
    go_wp2_with fail
    refine (components_any hD hl4 _ _ HCC.out).mono ?_
    rintro e w2 ⟨rfl, hf2, hrow, hlen⟩
    have hD2 := hD.fr hf2
    have b1 := hD2.c1
    have hq := hD2.lt
    obtain ⟨g, hg⟩ : ∃ g, g = w1.heap.size := ⟨_, rfl⟩
    rw [← hg] at hrow ⊢
    have HLE := hid hlen
    clear hg hlen
    have f2 : Fr [] W w2 := hf.trans hf2 (by simp)
    have hfw : Fr [] w w2 := hfW.trans f2 (by simp)
    replace e0 := f2.cell c0 (by simp)
    replace e1 := f2.cell c1 (by simp)
    replace g0 := f2.cell d0 (by simp)
    replace g1 := f2.cell d1 (by simp)
    replace gf : ∀ i, w2.frozen? ⟨w.heap.size + 1, i, none⟩ = false := fun i => (f2.frozenE (p := ⟨w.heap.size + 1, i, none⟩) hs (by simp)).trans (df i)
    replace hs1 : w.heap.size + 1 < w2.heap.size := Nat.lt_of_lt_of_le hs f2.size
    have hmk : ∀ V, (Instr.makeSlice 66 (.int .i64 ((n : Int) + (Ln : Int))) (.int .i64 ((n : Int) + (Ln : Int)))).run Tryz.prog V = .ok (.slice (some ⟨V.heap.size, 0, none⟩) (n + Ln) (n + Ln)) (V.alloc (.cells (bools (List.replicate (n + Ln) false)).toArray 4)) := fun V => by
      have := run_make_rows (P := Tryz.prog) (fun b : Bool => [.bool b]) false 66 4 1 1 (by kernel_rfl) (by kernel_rfl) rfl (by omega) ((n : Int) + (Ln : Int)) (n + Ln) (by omega) (by omega) (by omega) V
      rw [show (List.replicate (n + Ln) false).flatMap (fun b : Bool => [Value.bool b]) = bools (List.replicate (n + Ln) false) by unfold bools; rw [List.map_eq_flatMap]] at this
      exact this
    go_wp2
    obtain ⟨W4, hW4⟩ : ∃ W, W = ((w2.alloc (.cells #[.slice (some ⟨g, 0, none⟩) l.length l.length] 25)).alloc (.cells (bools (List.replicate (n + Ln) false)).toArray 4)).alloc (.cells #[.slice (some ⟨w2.heap.size + 1, 0, none⟩) (n + Ln) (n + Ln)] 66) := ⟨_, rfl⟩
    rw [← hW4]
    have f4 : Fr [] w2 W4 := by rw [hW4]; exact ((Fr.alloc1 _ _).alloc _).alloc _
    have hzi : W4.cell? ⟨w2.heap.size + 1 + 1, 0, none⟩ = some (.slice (some ⟨w2.heap.size + 1, 0, none⟩) (n + Ln) (n + Ln)) := by rw [hW4]; go_simp
    have hzo : W4.cell? ⟨w2.heap.size, 0, none⟩ = some (.slice (some ⟨g, 0, none⟩) l.length l.length) := by rw [hW4]; go_simp
    have hro : RowAt W4 g 3 (ints of) := hrow.fr f4 (by simp)
    have hri : RowAt W4 (w2.heap.size + 1) 4 (bools (List.replicate (n + Ln) false)) := by
      rw [hW4]
      exact (RowAt.new' (w2.alloc (.cells #[.slice (some ⟨g, 0, none⟩) l.length l.length] 25)) 4 (bools (List.replicate (n + Ln) false)) (w2.heap.size + 1) (by simp)).alloc _
    have HS4 := hid (show W4.heap.size = w2.heap.size + 3 by rw [hW4]; simp)
    have hglt := hrow.lt
    clear hW4 hmk
    replace e0 := f4.cell e0 (by simp)
    replace e1 := f4.cell e1 (by simp)
    replace g0 := f4.cell g0 (by simp)
    replace g1 := f4.cell g1 (by simp)
    replace gf : ∀ i, W4.frozen? ⟨w.heap.size + 1, i, none⟩ = false := fun i => (f4.frozenE (p := ⟨w.heap.size + 1, i, none⟩) hs1 (by simp)).trans (gf i)
    have hfw4 : Fr [] w W4 := hfw.trans f4 (by simp)
    have hX4 := hX.fr0 hfw4
    have hr4 := hr.fr0 hfw4
    go_loopw [37] (fun iv wr => ∃ (k : Nat) (bs : List Bool), k ≤ ks.length ∧ iv = .int .i64 k ∧ bs.length = n + Ln ∧ Fr [w2.heap.size + 1] W4 wr ∧ RowAt wr (w2.heap.size + 1) 4 (bools bs)) (fun iv _ => ks.length - (intOf iv).toNat)
    case atStart => exact ⟨0, _, by omega, rfl, by simp, Fr.refl _ _, hri⟩
    case round =>
      obtain ⟨k, bs, hk, rfl, hbl, hf5, hrb⟩ := hrel
      have hzi5 : wr.cell? ⟨w2.heap.size + 1 + 1, 0, none⟩ = some (.slice (some ⟨w2.heap.size + 1, 0, none⟩) (n + Ln) (n + Ln)) := hf5.cell hzi (by simp)
      have a0 := hf5.cell e0 (by simp; omega)
      have a1 := hf5.cell e1 (by simp; omega)
      have z0 := hf5.cell g0 (by simp; omega)
      have z1 := hf5.cell g1 (by simp; omega)
      have hs4 := HS4.out
      have zf : ∀ i, wr.frozen? ⟨w.heap.size + 1, i, none⟩ = false := fun i => (hf5.frozenE (p := ⟨w.heap.size + 1, i, none⟩) (by simp; omega) (by simp; omega)).trans (gf i)
      have hsr : w.heap.size + 1 < wr.heap.size := by have := hf5.size; omega
      have hsr0 : w.heap.size < wr.heap.size := by omega
      have hsr2 : w2.heap.size + 1 + 1 < wr.heap.size := by have := hf5.size; omega
      have hsr3 := hrb.lt
      clear hs4
      by_cases hlt : k < ks.length
      · obtain ⟨v, hv⟩ : ∃ v, ks[k]? = some v := ⟨ks[k], List.getElem?_eq_getElem hlt⟩
        have hXr : Rd wr X (ints ks) := hX4.fr hf5 (fun hx a ha => by have := hX.block hx a ha; simp; omega)
        have hne : ints ks ≠ [] := fun h0 => by
          have h2 := congrArg List.length h0
          rw [ints_len] at h2
          simp only [List.length_nil] at h2
          omega
        obtain ⟨b, off, rfl, hb, hcx⟩ := hXr hne
        have x0 := hcx k _ (ints_get hv)
        have HBL := hid hbl
        clear hbl hcx hv
        have hv : v < 0 ∨ (0 ≤ v ∧ (n : Int) + Ln ≤ v) ∨ (0 ≤ v ∧ v < (n : Int) + Ln) := by omega
        rcases hv with hv | ⟨hv, hv'⟩ | ⟨hv, hv'⟩
        iterate 2
          focus
            go_wp2
            refine bodyPost_ret (v := .tuple #[.agg #[.slice none 0 0, .int .i64 0], .int .i64 1]) ?_ rfl (.of _ rfl ?_)
            · simp [results, Tryz.results12, go_sem, hsr, z0, z1]
            · exact (((hfw4.trans hf5 (by simp; omega)).setCell (.inr (by simp)) _).setCell (.inr (by simp)) _)
        obtain ⟨j, rfl⟩ := Int.eq_ofNat_of_zero_le hv
        have hj : j < n + Ln := by omega
        have hjb : j < bs.length := by rw [HBL.out]; exact hj
        obtain ⟨bv, hbv⟩ : ∃ bv, bs[j]? = some bv := ⟨bs[j], List.getElem?_eq_getElem hjb⟩
        have y0 : wr.cell? ⟨w2.heap.size + 1, j, none⟩ = some (.bool bv) := by rw [hrb.cell]; simp [bools, hbv]
        have yf := fun i => hrb.frozen i
        clear hjb
        cases bv
        · have HRB := hid hrb
          clear hrb hbv
          go_wp2
          go_roundw
          case rel =>
            refine ⟨k + 1, bs.set j true, by omega, by go_num, by simpa using HBL.out, hf5.setCell (.inl (by simp)) _, ?_⟩
            have := HRB.out.set j (.bool true)
            simpa [bools, List.map_set] using this
          case measure => simp [intOf]; omega
        · go_wp2
          refine bodyPost_ret (v := .tuple #[.agg #[.slice none 0 0, .int .i64 0], .int .i64 1]) ?_ rfl (.of _ rfl ?_)
          · simp [results, Tryz.results12, go_sem, hsr, z0, z1]
          · exact (((hfw4.trans hf5 (by simp; omega)).setCell (.inr (by simp)) _).setCell (.inr (by simp)) _)
      · obtain rfl : k = ks.length := by omega
        have hRev : RevAt wr (w2.heap.size + 1 + 1) w2.heap.size (w2.heap.size + 1) g bs of :=
          ⟨by rw [hbl]; exact hzi5, by rw [HLE.out]; exact hf5.cell hzo (by simp), hrb, hro.fr hf5 (by simp; omega)⟩
        have hrr : Rd wr A (crCells cs) := hr4.fr hf5 (fun hx a ha => by have := hr.block hx a ha; simp; omega)
        have HBL := hid hbl
        clear hbl
        go_wp2_with fail
        refine (copied_any cs A cap Ln wr hrr (by omega) 30 _ (revF bs of) (enters_of Tryz.func30 (by kernel_rfl) rfl) (fun x W' hx hf' => reverse1_rev x W' _ _ _ _ bs of n cs.length (hRev.fr hf') (HG.out x hx) (HLE.out.trans HLL.out) (fun i hi => HA.out.2 i (by have := HLE.out; omega)) (by have := HBL.out; omega) (by have := HLE.out; omega) (by have := HBL.out; omega))).mono ?_
        rintro e w3 ⟨A', c', rfl, hf6, hown⟩
        replace z0 := hf6.cell z0 (by simp)
        replace z1 := hf6.cell z1 (by simp)
        replace zf : ∀ i, w3.frozen? ⟨w.heap.size + 1, i, none⟩ = false := fun i => (hf6.frozenE (p := ⟨w.heap.size + 1, i, none⟩) hsr (by simp)).trans (zf i)
        replace hsr : w.heap.size + 1 < w3.heap.size := Nat.lt_of_lt_of_le hsr hf6.size
        go_wp2
        refine bodyPost_ret (v := .tuple #[.agg #[.slice A' cs.length c', .int .i64 Ln], .int .i64 0]) ?_ rfl (.of _ rfl ?_)
        · simp [results, Tryz.results12, go_sem, hsr, z0, z1]
        · exact (((hfw4.trans hf5 (by simp; omega)).trans hf6 (by simp)).setCell (.inr (by simp)) _).setCell (.inr (by simp)) _
end Go.Proofs.YtjmgjkcjnjlpdaaGreatDoor

/-! ## D19 -/
namespace Go.Proofs.YtjmgjkcjnjlpdaaGreatDoor
open Go.RowKit

/-- both: with errno 0 both diagrams are sound -/
def BothPost (w : World) (Ra Rb : Int × List AE) (e : Ending) (w' : World) : Prop :=
  Fr [] w w' ∧ ∃ (v1 v2 : Option Addr) (r : Int), e = .returned (.tuple #[.pointer v1, .pointer v2, .int .i64 r]) ∧ (r = 0 → Ra.1 = 0 ∧ Rb.1 = 0)

theorem enterF_none {cs : List Cr} {L : Int} {R : Int × List AE} (h : enterF cs L = some R) (h0 : endsF cs L = none) : R.1 = 220 := by
  unfold enterF at h
  rw [h0] at h
  cases h; rfl

set_option maxHeartbeats 1000000 in
theorem both_any (al bl : List Cr) (A B : Option Addr) (capA capB : Nat) (La Lb : Int) (w : World) (hra : Rd w A (crCells al)) (hrb : Rd w B (crCells bl)) (Ra Rb : Int × List AE) (hRa : enterF al La = some Ra) (hRb : enterF bl Lb = some Rb) :
    Calls Tryz.prog 32 #[.agg #[.slice A al.length capA, .int .i64 La], .agg #[.slice B bl.length capB, .int .i64 Lb]] w (BothPost w Ra Rb) := by
  obtain ⟨ra, la⟩ := Ra
  obtain ⟨rb, lb⟩ := Rb
  have HRA := hid hRa
  have HRB := hid hRb
  clear hRa hRb
  obtain ⟨W, hW⟩ : ∃ W, W = (w.alloc (.cells #[.slice A al.length capA, .int .i64 La] 24)).alloc (.cells #[.slice B bl.length capB, .int .i64 Lb] 24) := ⟨_, rfl⟩
  have hfW : Fr [] w W := by rw [hW]; exact (Fr.alloc1 _ _).alloc _
  have c0 : W.cell? ⟨w.heap.size, 0, none⟩ = some (.slice A al.length capA) := by rw [hW]; go_simp
  have c1 : W.cell? ⟨w.heap.size, 1, none⟩ = some (.int .i64 La) := by rw [hW]; go_simp
  have d0 : W.cell? ⟨w.heap.size + 1, 0, none⟩ = some (.slice B bl.length capB) := by rw [hW]; go_simp
  have d1 : W.cell? ⟨w.heap.size + 1, 1, none⟩ = some (.int .i64 Lb) := by rw [hW]; go_simp
  have hs : w.heap.size + 1 < W.heap.size := by rw [hW]; simp
  have hs0 : w.heap.size < W.heap.size := by omega
  cases hea : endsF al La with
  | none =>
    have HA : Hid (ra = 220) := enterF_none HRA.out hea
    have HEA := hid hea
    clear hea
    cases heb : endsF bl Lb with
    | none =>
      have HEB := hid heb
      clear heb
      go_enter Tryz.func32, Tryz.ntmps32
      go_wp2_with fail
      rw [← hW]
      clear hW
      refine (ends_any al A capA La _ (hra.fr0 hfW)).mono ?_; unfold EndsPost; rw [HEA.out]; rintro e w1 ⟨hf1, rfl⟩
      have f1 := hfW.trans hf1 (by simp)
      replace d0 := hf1.cell d0 (by simp)
      replace d1 := hf1.cell d1 (by simp)
      replace hs := Nat.lt_of_lt_of_le hs hf1.size
      go_wp2_with fail
      refine (ends_any bl B capB Lb _ (hrb.fr0 f1)).mono ?_; unfold EndsPost; rw [HEB.out]; rintro e w2 ⟨hf2, rfl⟩
      go_wp2
      go_ret3
      exact ⟨f1.trans hf2 (by simp), none, none, 220, rfl, by simp⟩
    | some lb' =>
      have HEB := hid heb
      clear heb
      go_enter Tryz.func32, Tryz.ntmps32
      go_wp2_with fail
      rw [← hW]
      clear hW
      refine (ends_any al A capA La _ (hra.fr0 hfW)).mono ?_; unfold EndsPost; rw [HEA.out]; rintro e w1 ⟨hf1, rfl⟩
      have f1 := hfW.trans hf1 (by simp)
      replace d0 := hf1.cell d0 (by simp)
      replace d1 := hf1.cell d1 (by simp)
      replace hs := Nat.lt_of_lt_of_le hs hf1.size
      go_wp2_with fail
      refine (ends_any bl B capB Lb _ (hrb.fr0 f1)).mono ?_; unfold EndsPost; rw [HEB.out]; rintro e w2 ⟨hf2, C, rfl, hC⟩
      go_wp2
      go_ret3
      exact ⟨f1.trans hf2 (by simp), none, none, 220, rfl, by simp⟩
  | some la' =>
    have HEA := hid hea
    clear hea
    cases heb : endsF bl Lb with
    | none =>
      have HEB := hid heb
      clear heb
      go_enter Tryz.func32, Tryz.ntmps32
      go_wp2_with fail
      rw [← hW]
      clear hW
      refine (ends_any al A capA La _ (hra.fr0 hfW)).mono ?_; unfold EndsPost; rw [HEA.out]; rintro e w1 ⟨hf1, C, rfl, hC⟩
      have f1 := hfW.trans hf1 (by simp)
      replace d0 := hf1.cell d0 (by simp)
      replace d1 := hf1.cell d1 (by simp)
      replace hs := Nat.lt_of_lt_of_le hs hf1.size
      go_wp2_with fail
      refine (ends_any bl B capB Lb _ (hrb.fr0 f1)).mono ?_; unfold EndsPost; rw [HEB.out]; rintro e w2 ⟨hf2, rfl⟩
      go_wp2
      go_ret3
      exact ⟨f1.trans hf2 (by simp), none, none, 220, rfl, by simp⟩
    | some lb' =>
      have HEB := hid heb
      clear heb
      go_enter Tryz.func32, Tryz.ntmps32
      go_wp2_with fail
      rw [← hW]
      clear hW
      refine (ends_any al A capA La _ (hra.fr0 hfW)).mono ?_; unfold EndsPost; rw [HEA.out]; rintro e w1 ⟨hf1, C, rfl, hC⟩
      have f1 := hfW.trans hf1 (by simp)
      replace c0 := hf1.cell c0 (by simp)
      replace c1 := hf1.cell c1 (by simp)
      replace d0 := hf1.cell d0 (by simp)
      replace d1 := hf1.cell d1 (by simp)
      replace hs := Nat.lt_of_lt_of_le hs hf1.size
      go_wp2_with fail
      refine (ends_any bl B capB Lb _ (hrb.fr0 f1)).mono ?_; unfold EndsPost; rw [HEB.out]; rintro e w2 ⟨hf2, D, rfl, hD⟩
      have f2 := f1.trans hf2 (by simp)
      replace c0 := hf2.cell c0 (by simp)
      replace c1 := hf2.cell c1 (by simp)
      replace d0 := hf2.cell d0 (by simp)
      replace d1 := hf2.cell d1 (by simp)
      replace hs := Nat.lt_of_lt_of_le hs hf2.size
      replace hs0 : w.heap.size < w2.heap.size := by omega
      clear hC hD
      go_wp2_with fail
      refine (enter_any al A capA La _ (hra.fr0 f2) _ HRA.out).mono ?_
      rintro e w3 ⟨hf3, ⟨h0, rfl⟩ | ⟨h0, q, C2, rfl, hD⟩⟩
      all_goals have f3 := f2.trans hf3 (by simp)
      all_goals replace d0 := hf3.cell d0 (by simp)
      all_goals replace d1 := hf3.cell d1 (by simp)
      all_goals replace hs := Nat.lt_of_lt_of_le hs hf3.size
      all_goals simp only at h0
      · have h0' : (ra != 0) = true := by simpa using h0
        go_wp2_with fail
        refine (enter_any bl B capB Lb _ (hrb.fr0 f3) _ HRB.out).mono ?_
        rintro e w4 ⟨hf4, ⟨h1, rfl⟩ | ⟨h1, q, C2, rfl, hD⟩⟩
        all_goals
          go_wp2
          go_ret3
          exact ⟨f3.trans hf4 (by simp), none, none, 221, rfl, by simp⟩
      · subst h0
        clear hD
        go_wp2_with fail
        refine (enter_any bl B capB Lb _ (hrb.fr0 f3) _ HRB.out).mono ?_
        rintro e w4 ⟨hf4, ⟨h1, rfl⟩ | ⟨h1, q, C2, rfl, hD⟩⟩
        · simp only at h1
          have h1' : (rb != 0) = true := by simpa using h1
          go_wp2
          go_ret3
          exact ⟨f3.trans hf4 (by simp), none, none, 221, rfl, by simp⟩
        · simp only at h1
          subst h1
          clear hD
          go_wp2
          go_ret3
          exact ⟨f3.trans hf4 (by simp), _, _, 0, rfl, by simp⟩
end Go.Proofs.YtjmgjkcjnjlpdaaGreatDoor

/-! ## D20 -/
namespace Go.Proofs.YtjmgjkcjnjlpdaaGreatDoor
open Go.RowKit

def shF (k : Int) (x : Cr) : Cr := ⟨x.a + k, x.b + k, x.c + k, x.d + k, x.s⟩
def unionF (al bl : List Cr) : List Cr := al ++ bl.map (shF (2 * al.length))

def UnionPost (w : World) (al bl : List Cr) (L : Int) (e : Ending) (w' : World) : Prop :=
  ∃ A' c', e = .returned (.agg #[.slice A' (al.length + bl.length) c', .int .i64 L]) ∧ Fr [] w w' ∧ OwnR w' w.heap.size 54 5 A' (al.length + bl.length) c' (crCells (unionF al bl))

/-- behind the making of the union's record: block p -/
structure UCut (W : World) (al : List Cr) (L : Int) (p : Nat) (A' : Option Addr) (c' : Nat) (wx : World) : Prop where
  fr : Fr [] W wx
  p0 : W.heap.size ≤ p
  lt : p < wx.heap.size
  c0 : wx.cell? ⟨p, 0, none⟩ = some (.slice A' al.length c')
  c1 : wx.cell? ⟨p, 1, none⟩ = some (.int .i64 L)
  fz : ∀ i, wx.frozen? ⟨p, i, none⟩ = false
  own : OwnR wx W.heap.size 54 5 A' al.length c' (crCells al)
  ne : ∀ a, A' = some a → a.block ≠ p

theorem UCut.late {W w1 : World} {al : List Cr} {L : Int} {A' : Option Addr} {c' : Nat} (hf : Fr [] W w1) (hown : OwnR w1 W.heap.size 54 5 A' al.length c' (crCells al)) :
    UCut W al L w1.heap.size A' c' (w1.alloc (.cells #[.slice A' al.length c', .int .i64 L] 24)) where
  fr := hf.alloc _
  p0 := hf.size
  lt := by simp
  c0 := by go_simp
  c1 := by go_simp
  fz := fun i => by go_simp
  own := hown.alloc _
  ne := fun a ha h => by have := (hown.addr a ha).2; omega

theorem UCut.early {W w1 : World} {al : List Cr} {L : Int} {A' : Option Addr} {c' p : Nat} (hf : Fr [] W w1) (hp : W.heap.size ≤ p) (hlt : p < w1.heap.size) (o0 : w1.cell? ⟨p, 0, none⟩ = some (.slice none 0 0)) (o1 : w1.cell? ⟨p, 1, none⟩ = some (.int .i64 0)) (of : ∀ i, w1.frozen? ⟨p, i, none⟩ = false) (hown : OwnR w1 (p + 1) 54 5 A' al.length c' (crCells al)) :
    UCut W al L p A' c' ((w1.setCell ⟨p, 0, none⟩ (.slice A' al.length c')).setCell ⟨p, 1, none⟩ (.int .i64 L)) where
  fr := (hf.setCell (.inr hp) _).setCell (.inr hp) _
  p0 := hp
  lt := by simpa using hlt
  c0 := by go_simp
  c1 := by go_simp
  fz := fun i => by go_simp
  own := ((hown.setCell _ (fun a ha => by have := (hown.addr a ha).1; simp; omega)).setCell _ (fun a ha => by have := (hown.addr a ha).1; simp; omega)).base (by omega)
  ne := fun a ha h => by have := (hown.addr a ha).1; omega

def shN (k : Int) : Nat → Cr → Cr
  | 0, x => x
  | 1, x => { x with a := x.a + k }
  | 2, x => { x with a := x.a + k, b := x.b + k }
  | 3, x => { x with a := x.a + k, b := x.b + k, c := x.c + k }
  | _, x => shF k x

theorem shN_cells (k : Int) (x : Cr) : ∀ (j : Nat) (_ : j < 4), (shN k j x).cells.set j (.int .i64 (x.arc j + k)) = (shN k (j + 1) x).cells
  | 0, _ => rfl
  | 1, _ => rfl
  | 2, _ => rfl
  | 3, _ => rfl

theorem shN_get (k : Int) (x : Cr) : ∀ (j : Nat) (_ : j < 4), (shN k j x).cells[j]? = some (.int .i64 (x.arc j))
  | 0, _ => rfl
  | 1, _ => rfl
  | 2, _ => rfl
  | 3, _ => rfl

theorem UCut.to {W w1 w2 : World} {xs : List Cr} {L : Int} {A1 : Option Addr} {c1 p : Nat} (h : UCut W xs L p A1 c1 w1) (hf : Fr [] w1 w2) : UCut W xs L p A1 c1 w2 :=
  ⟨h.fr.trans hf (by simp), h.p0, Nat.lt_of_lt_of_le h.lt hf.size, hf.cell h.c0 (by simp), hf.cell h.c1 (by simp), fun i => (hf.frozenE (p := ⟨p, i, none⟩) h.lt (by simp)).trans (h.fz i), h.own.fr hf (by simp), h.ne⟩

/-- where the record lies behind an append -/
theorem UCut.kept {W w1 w2 : World} {xs : List Cr} {L : Int} {A1 : Option Addr} {c1 p : Nat} (h : UCut W xs L p A1 c1 w1) (hfr : Fr (ablocks A1) w1 w2) :
    w2.cell? ⟨p, 0, none⟩ = some (.slice A1 xs.length c1) ∧ (∀ i, w2.frozen? ⟨p, i, none⟩ = false) ∧ p < w2.heap.size := by
  have hnp : p ∉ ablocks A1 := fun hm => by obtain ⟨a, ha, h2⟩ := mem_ablocks.1 hm; exact h.ne a ha h2
  exact ⟨hfr.cell h.c0 hnp, fun i => (hfr.frozenE (p := ⟨p, i, none⟩) h.lt hnp).trans (h.fz i), Nat.lt_of_lt_of_le h.lt hfr.size⟩

theorem UCut.grow {W w1 w2 : World} {xs : List Cr} {L : Int} {A1 A2 : Option Addr} {c1 c2 p : Nat} {y : Cr} (h : UCut W xs L p A1 c1 w1) (hfr : Fr (ablocks A1) w1 w2) (hl : Lies w1 A1 A2) (hown : OwnR w2 W.heap.size 54 5 A2 (xs.length + 1) c2 (crCells xs ++ y.cells)) :
    UCut W (xs ++ [y]) L p A2 c2 (w2.setCell ⟨p, 0, none⟩ (.slice A2 (xs.length + 1) c2)) := by
  have hnp : p ∉ ablocks A1 := fun hm => by obtain ⟨a, ha, h2⟩ := mem_ablocks.1 hm; exact h.ne a ha h2
  have hne : ∀ a, A2 = some a → a.block ≠ p := hl.ne h.ne h.lt
  have hlt : p < w2.heap.size := Nat.lt_of_lt_of_le h.lt hfr.size
  have z0 := hfr.cell h.c0 hnp
  have z1 := hfr.cell h.c1 hnp
  have zf : ∀ i, w2.frozen? ⟨p, i, none⟩ = false := fun i => (hfr.frozenE (p := ⟨p, i, none⟩) h.lt hnp).trans (h.fz i)
  refine ⟨?_, h.p0, by simpa using hlt, ?_, ?_, ?_, ?_, hne⟩
  · refine (h.fr.trans hfr ?_).setCell (.inr h.p0) _
    intro i hi
    obtain ⟨a, ha, h2⟩ := mem_ablocks.1 hi
    exact .inr (h2 ▸ (h.own.addr a ha).1)
  · simp only [List.length_append, List.length_cons, List.length_nil]; go_simp
  · go_simp
  · intro i; go_simp
  · have := hown.setCell (p := ⟨p, 0, none⟩) (.slice A2 (xs.length + 1) c2) hne
    simpa [crCells] using this

set_option maxHeartbeats 2000000 in
set_option maxRecDepth 100000 in
theorem union_any (al bl : List Cr) (A B : Option Addr) (capA capB : Nat) (La Lb : Int) (w : World) (hra : Rd w A (crCells al)) (hrb : Rd w B (crCells bl)) (hna : al.length ≤ 200) (hnb : bl.length ≤ 200) (hgb : ∀ x ∈ bl, CrOk bl.length x) (hLa : 0 ≤ La ∧ La ≤ 200) (hLb : 0 ≤ Lb ∧ Lb ≤ 200) :
    Calls Tryz.prog 33 #[.agg #[.slice A al.length capA, .int .i64 La], .agg #[.slice B bl.length capB, .int .i64 Lb]] w (UnionPost w al bl (La + Lb)) := by
  obtain ⟨hLa0, hLa1⟩ := hLa
  obtain ⟨hLb0, hLb1⟩ := hLb
  have HG := hid hgb
  clear hgb
  obtain ⟨W, hW⟩ : ∃ W, W = ((w.alloc (.cells #[.slice A al.length capA, .int .i64 La] 24)).alloc (.cells #[.slice B bl.length capB, .int .i64 Lb] 24)).alloc (.cells #[.slice none 0 0, .int .i64 0] 24) := ⟨_, rfl⟩
  have hfW : Fr [] w W := by rw [hW]; exact ((Fr.alloc1 _ _).alloc _).alloc _
  have c0 : W.cell? ⟨w.heap.size, 0, none⟩ = some (.slice A al.length capA) := by rw [hW]; go_simp
  have c1 : W.cell? ⟨w.heap.size, 1, none⟩ = some (.int .i64 La) := by rw [hW]; go_simp
  have d0 : W.cell? ⟨w.heap.size + 1, 0, none⟩ = some (.slice B bl.length capB) := by rw [hW]; go_simp
  have d1 : W.cell? ⟨w.heap.size + 1, 1, none⟩ = some (.int .i64 Lb) := by rw [hW]; go_simp
  have g0 : W.cell? ⟨w.heap.size + 1 + 1, 0, none⟩ = some (.slice none 0 0) := by rw [hW]; go_simp
  have g1 : W.cell? ⟨w.heap.size + 1 + 1, 1, none⟩ = some (.int .i64 0) := by rw [hW]; go_simp
  have gf : ∀ i, W.frozen? ⟨w.heap.size + 1 + 1, i, none⟩ = false := fun i => by rw [hW]; go_simp
  have hs : w.heap.size + 1 + 1 < W.heap.size := by rw [hW]; simp
  have hs1 : w.heap.size + 1 < W.heap.size := by omega
  have hs0 : w.heap.size < W.heap.size := by omega
  have HS := hid (show W.heap.size = w.heap.size + 3 by rw [hW]; simp)
  go_enter Tryz.func33, Tryz.ntmps33
  go_wp2
  rw [← hW]
  clear hW
  have hna' : al.length ≤ 1000000 := by omega
  go_cut [5] (fun s5 wx => ∃ p A' c', s5 = .pointer (some ⟨p, 0, none⟩) ∧ UCut W al (La + Lb) p A' c' wx)
  case first =>
    have ne0 : w.heap.size ≠ W.heap.size := by omega
    have ne1 : w.heap.size + 1 ≠ W.heap.size := by omega
    have ne2 : W.heap.size ≠ w.heap.size := by omega
    have ne3 : W.heap.size ≠ w.heap.size + 1 := by omega
    go_region_held3 (fun V => V.cell? ⟨w.heap.size, 0, none⟩ = some (.slice A al.length capA) ∧ V.cell? ⟨w.heap.size, 1, none⟩ = some (.int .i64 La) ∧ V.cell? ⟨w.heap.size + 1, 1, none⟩ = some (.int .i64 Lb)) (go_keep)
     (first
      | (go_at_call 48; refine (clone_any al A capA W.drew (hra.fr0 hfW.drew) hna').mono ?_; rintro e w1 ⟨A', c', rfl, hf1, hown⟩; have e0 := hf1.cell (p := ⟨w.heap.size, 0, none⟩) (v := .slice A al.length capA) c0 (by simp); have e1 := hf1.cell (p := ⟨w.heap.size, 1, none⟩) (v := .int .i64 La) c1 (by simp); have k1 := hf1.cell (p := ⟨w.heap.size + 1, 1, none⟩) (v := .int .i64 Lb) d1 (by simp); have t1 : w.heap.size < w1.heap.size := Nat.lt_of_lt_of_le hs0 hf1.size; have t2 : w.heap.size + 1 < w1.heap.size := Nat.lt_of_lt_of_le hs1 hf1.size)
      | (go_at_call 48; refine (clone_any al A capA (W.drew.alloc (.cells #[.slice none 0 0, .int .i64 0] 24)) (hra.fr0 (hfW.drew.alloc _)) hna').mono ?_; rintro e w1 ⟨A', c', rfl, hf1, hown⟩; have e0 := hf1.cell (p := ⟨w.heap.size, 0, none⟩) (v := .slice A al.length capA) (by go_simp) (by simp); have e1 := hf1.cell (p := ⟨w.heap.size, 1, none⟩) (v := .int .i64 La) (by go_simp) (by simp); have k1 := hf1.cell (p := ⟨w.heap.size + 1, 1, none⟩) (v := .int .i64 Lb) (by go_simp) (by simp); have o0 := hf1.cell (p := ⟨W.heap.size, 0, none⟩) (v := .slice none 0 0) (by go_simp) (by simp); have o1 := hf1.cell (p := ⟨W.heap.size, 1, none⟩) (v := .int .i64 0) (by go_simp) (by simp); have of : ∀ i, w1.frozen? ⟨W.heap.size, i, none⟩ = false := fun i => (hf1.frozenE (p := ⟨W.heap.size, i, none⟩) (by go_simp) (by simp)).trans (by go_simp); have t3 : W.heap.size < w1.heap.size := Nat.lt_of_lt_of_le (by go_simp) hf1.size; have t1 : w.heap.size < w1.heap.size := Nat.lt_trans hs0 t3; have t2 : w.heap.size + 1 < w1.heap.size := Nat.lt_trans hs1 t3))
    · have hwrap : IntKind.i64.wrap (La + Lb) = La + Lb := IntWalk.i64_in _ (by omega)
      go_wp2_with fail
      go_meet
      rw [hwrap]
      exact ⟨_, _, _, rfl, UCut.late (((Fr.refl [] W).drew).trans hf1 (by simp)) hown⟩
    · have hwrap : IntKind.i64.wrap (La + Lb) = La + Lb := IntWalk.i64_in _ (by omega)
      go_wp2_with fail
      go_meet
      rw [hwrap]
      exact ⟨_, _, _, rfl, UCut.early (((Fr.refl [] W).drew.alloc _).trans hf1 (by simp)) (Nat.le_refl _) t3 o0 o1 of (by simpa using hown)⟩
  case rest =>
    obtain ⟨p, A', c', rfl, hU⟩ := hcut
    have e0 := hU.fr.cell d0 (by simp)
    have HU := hid hU
    clear hU
    go_wp2
    go_loopw [21] (fun iv wr => ∃ (k : Nat) (A2 : Option Addr) (c2 : Nat), k ≤ bl.length ∧ iv = .int .i64 k ∧ UCut W (al ++ (bl.take k).map (shF (2 * al.length))) (La + Lb) p A2 c2 wr) (fun iv _ => bl.length - (intOf iv).toNat)
    case atStart => exact ⟨0, A', c', by omega, rfl, by simpa using HU.out⟩
    case round =>
      obtain ⟨k, A2, c2, hk, rfl, hU2⟩ := hrel
      have q0 := hU2.c0
      have q1 := hU2.c1
      have qf := hU2.fz
      have qlt := hU2.lt
      have hlen : (al ++ (bl.take k).map (shF (2 * al.length))).length = al.length + k := by simp [Nat.min_eq_left hk]
      rw [hlen] at q0
      have HLEN := hid hlen
      have HU2 := hid hU2
      clear hlen
      by_cases hlt : k < bl.length
      · obtain ⟨x, hx⟩ : ∃ x, bl[k]? = some x := ⟨bl[k], List.getElem?_eq_getElem hlt⟩
        obtain ⟨b, off, rfl, hb, x0, x1, x2, x3, x4⟩ := (hrb.fr0 (hfW.trans hU2.fr (by simp))).cr hx
        have hc := HG.out x (List.mem_of_getElem? hx)
        have HX := hid hx
        have r0 := hU2.fr.cell c0 (by simp)
        have hr0 : w.heap.size < wr.heap.size := Nat.lt_of_lt_of_le hs0 hU2.fr.size
        clear hx hU2
        obtain ⟨wo, hwo⟩ : ∃ wo : World, wo = wr := ⟨_, rfl⟩
        rw [← hwo] at x0 x1 x2 x3 x4 hb q0 q1 qf qlt HU2 r0 hr0 ⊢
        clear hwo
        have hE0 : Fr [] wo (wo.alloc (.cells #[.int .i64 x.a, .int .i64 x.b, .int .i64 x.c, .int .i64 x.d, .int .i64 x.s] 54)) := (Fr.refl _ _).alloc _
        go_wp2
        go_loopw [25] (fun jv wi => ∃ (j : Nat), j ≤ 4 ∧ jv = .int .i64 j ∧ Fr [wo.heap.size] (wo.alloc (.cells #[.int .i64 x.a, .int .i64 x.b, .int .i64 x.c, .int .i64 x.d, .int .i64 x.s] 54)) wi ∧ RowAt wi wo.heap.size 54 (shN (2 * al.length) j x).cells) (fun jv _ => 4 - (intOf jv).toNat)
        case atStart => exact ⟨0, by omega, rfl, Fr.refl _ _, RowAt.new wo _ _⟩
        case round =>
          obtain ⟨j, hj, rfl, hfi, hrow⟩ := hrel
          have g1 := hfi.cell (hE0.cell r0 (by simp)) (by simp; omega)
          by_cases hj4 : j < 4
          · have zj : wr.cell? ⟨wo.heap.size, j, none⟩ = some (.int .i64 (x.arc j)) := by rw [hrow.cell]; exact shN_get _ x j hj4
            have zf := fun i => hrow.frozen i
            have hzlt := hrow.lt
            have hb0 : 0 ≤ x.arc j ∧ x.arc j < 2 * (bl.length : Int) := by
              match j, hj4 with
              | 0, _ => exact ⟨hc.a0, hc.a1⟩
              | 1, _ => exact ⟨hc.b0, hc.b1⟩
              | 2, _ => exact ⟨hc.c0, hc.c1⟩
              | 3, _ => exact ⟨hc.d0, hc.d1⟩
            obtain ⟨hb1, hb2⟩ := hb0
            have hwl : w.heap.size < wr.heap.size := by have := hfi.size; simp at this; omega
            have HR := hid hrow
            clear hrow
            go_wp2
            go_region
            all_goals
              go_wp2
              go_roundw
              case rel => exact ⟨j + 1, by omega, by go_num, (hfi.drew).setCell (.inl (by simp)) _, by have := (HR.out).set j (.int .i64 (x.arc j + 2 * al.length)); rw [shN_cells _ x j hj4] at this; exact this⟩
              case measure => simp [intOf]; omega
          · obtain rfl : j = 4 := by omega
            have U1 := HU2.out.to (hE0.trans hfi (by simp))
            have q0' := U1.c0
            rw [HLEN.out] at q0'
            have hp1 := U1.lt
            obtain ⟨⟨ya, yb, yc, yd, ys⟩, hy⟩ : ∃ y, shN (2 * al.length) 4 x = y := ⟨_, rfl⟩
            have hy' : shF (2 * al.length) x = ⟨ya, yb, yc, yd, ys⟩ := hy
            have HY := hid hy'
            rw [hy] at hrow
            clear hy hy'
            have y0 : wr.cell? ⟨wo.heap.size, 0, none⟩ = some (.int .i64 ya) := hrow.cell 0
            have y1 : wr.cell? ⟨wo.heap.size, 1, none⟩ = some (.int .i64 yb) := hrow.cell 1
            have y2 : wr.cell? ⟨wo.heap.size, 2, none⟩ = some (.int .i64 yc) := hrow.cell 2
            have y3 : wr.cell? ⟨wo.heap.size, 3, none⟩ = some (.int .i64 yd) := hrow.cell 3
            have y4 : wr.cell? ⟨wo.heap.size, 4, none⟩ = some (.int .i64 ys) := hrow.cell 4
            have hzlt := hrow.lt
            have HU1 := hid U1
            have hW0 : W.heap.size ≤ wr.heap.size := U1.fr.size
            clear U1
            go_wp2_with (at_builtin; refine wpList_append1 _ rfl _ _ 22 rfl W.heap.size 54 5 40 #[.int .i64 0, .int .i64 0, .int .i64 0, .int .i64 0, .int .i64 0] (by kernel_rfl) (by kernel_rfl) rfl (by omega) _ _ _ (crCells (al ++ (bl.take k).map (shF (2 * al.length)))) rfl (by have := HU1.out.own.alloc (.cells #[.int .i64 ya, .int .i64 yb, .int .i64 yc, .int .i64 yd, .int .i64 ys] 54); rw [HLEN.out] at this; exact this) wr.heap.size [.int .i64 ya, .int .i64 yb, .int .i64 yc, .int .i64 yd, .int .i64 ys] rfl rfl (RowAt.new' _ _ _ _ (by simp)) (by simp [Value.oneCell']) (by omega) (by omega) (by simp; omega) ?_; intro A7 c7 w7 hown7 hfr7 hlies7; obtain ⟨s0, sf, sl⟩ := (HU1.out.to (Fr.alloc1 wr (.cells #[.int .i64 ya, .int .i64 yb, .int .i64 yc, .int .i64 yd, .int .i64 ys] 54))).kept hfr7)
            go_roundw
            case rel =>
              refine ⟨k + 1, A7, c7, by omega, by go_num, ?_⟩
              have hl := HLEN.out
              have h7 := (HU1.out.to (Fr.alloc1 wr (.cells #[.int .i64 ya, .int .i64 yb, .int .i64 yc, .int .i64 yd, .int .i64 ys] 54))).grow (y := ⟨ya, yb, yc, yd, ys⟩) hfr7 hlies7 (c2 := c7) (by rw [hl]; exact hown7)
              rw [hl] at h7
              have he : al ++ (bl.take (k + 1)).map (shF (2 * al.length)) = (al ++ (bl.take k).map (shF (2 * al.length))) ++ [⟨ya, yb, yc, yd, ys⟩] := by
                rw [List.take_add_one, HX.out]
                simp [HY.out]
              rw [he]
              exact h7
            case measure => simp [intOf]; omega
      · obtain rfl : k = bl.length := by omega
        have v0 := hU2.fr.cell g0 (by simp)
        have v1 := hU2.fr.cell g1 (by simp)
        have vf : ∀ i, wr.frozen? ⟨w.heap.size + 1 + 1, i, none⟩ = false := fun i => (hU2.fr.frozenE (p := ⟨w.heap.size + 1 + 1, i, none⟩) hs (by simp)).trans (gf i)
        have vl : w.heap.size + 1 + 1 < wr.heap.size := Nat.lt_of_lt_of_le hs hU2.fr.size
        clear hU2
        go_wp2
        refine bodyPost_ret (v := .agg #[.slice A2 (al.length + bl.length) c2, .int .i64 (La + Lb)]) ?_ rfl ⟨A2, c2, rfl, ?_, ?_⟩
        · simp [results, Tryz.results33, go_sem, vl, v0, v1]
        · exact ((hfW.trans HU2.out.fr (by simp)).setCell (.inr (by simp; omega)) _).setCell (.inr (by simp; omega)) _
        · have h := HU2.out.own
          have hl := HLEN.out
          have hs3 := HS.out
          rw [hl, List.take_length] at h
          have hA : ∀ a, A2 = some a → W.heap.size ≤ a.block := fun a ha => (h.addr a ha).1
          have h2 := (h.setCell (p := ⟨w.heap.size + 1 + 1, 0, none⟩) (.slice A2 (al.length + bl.length) c2) (fun a ha => by have := hA a ha; simp; omega)).setCell (p := ⟨w.heap.size + 1 + 1, 1, none⟩) (.int .i64 (La + Lb)) (fun a ha => by have := hA a ha; simp; omega)
          exact h2.base (by omega)
end Go.Proofs.YtjmgjkcjnjlpdaaGreatDoor

/-! ## D21 -/
namespace Go.Proofs.YtjmgjkcjnjlpdaaGreatDoor
open Go.RowKit

/-- what Union leaves -/
def UPost (w : World) (al bl : List Cr) (La Lb : Int) (Ra Rb : Int × List AE) (e : Ending) (w' : World) : Prop :=
  ∃ r, DiaPost w r (unionF al bl) (La + Lb) e w' ∧ (r = 0 → Ra.1 = 0 ∧ Rb.1 = 0 ∧ al.length + bl.length ≤ 200 ∧ La + Lb ≤ 200)

theorem unionF_len (al bl : List Cr) : (unionF al bl).length = al.length + bl.length := by simp [unionF]

set_option maxHeartbeats 1000000 in
theorem Union_any (al bl : List Cr) (A B : Option Addr) (capA capB : Nat) (La Lb : Int) (w : World) (hra : Rd w A (crCells al)) (hrb : Rd w B (crCells bl)) (Ra Rb : Int × List AE) (hRa : enterF al La = some Ra) (hRb : enterF bl Lb = some Rb) :
    Calls Tryz.prog 14 #[.agg #[.slice A al.length capA, .int .i64 La], .agg #[.slice B bl.length capB, .int .i64 Lb]] w (UPost w al bl La Lb Ra Rb) := by
  have HRA := hid hRa
  have HRB := hid hRb
  have HOA := hid (enterF_ok hRa)
  have HOB := hid (enterF_ok hRb)
  clear hRa hRb
  obtain ⟨W, hW⟩ : ∃ W, W = ((w.alloc (.cells #[.slice A al.length capA, .int .i64 La] 24)).alloc (.cells #[.slice B bl.length capB, .int .i64 Lb] 24)).alloc (.cells #[.slice none 0 0, .int .i64 0] 24) := ⟨_, rfl⟩
  have hfW : Fr [] w W := by rw [hW]; exact ((Fr.alloc1 _ _).alloc _).alloc _
  have c0 : W.cell? ⟨w.heap.size, 0, none⟩ = some (.slice A al.length capA) := by rw [hW]; go_simp
  have c1 : W.cell? ⟨w.heap.size, 1, none⟩ = some (.int .i64 La) := by rw [hW]; go_simp
  have d0 : W.cell? ⟨w.heap.size + 1, 0, none⟩ = some (.slice B bl.length capB) := by rw [hW]; go_simp
  have d1 : W.cell? ⟨w.heap.size + 1, 1, none⟩ = some (.int .i64 Lb) := by rw [hW]; go_simp
  have g0 : W.cell? ⟨w.heap.size + 1 + 1, 0, none⟩ = some (.slice none 0 0) := by rw [hW]; go_simp
  have g1 : W.cell? ⟨w.heap.size + 1 + 1, 1, none⟩ = some (.int .i64 0) := by rw [hW]; go_simp
  have gf : ∀ i, W.frozen? ⟨w.heap.size + 1 + 1, i, none⟩ = false := fun i => by rw [hW]; go_simp
  have hs : w.heap.size + 1 + 1 < W.heap.size := by rw [hW]; simp
  have hs1 : w.heap.size + 1 < W.heap.size := by omega
  have hs0 : w.heap.size < W.heap.size := by omega
  have HS := hid (show W.heap.size = w.heap.size + 3 by rw [hW]; simp)
  go_enter Tryz.func14, Tryz.ntmps14
  go_wp2_with fail
  rw [← hW]
  clear hW
  refine (both_any al bl A B capA capB La Lb W (hra.fr0 hfW) (hrb.fr0 hfW) Ra Rb HRA.out HRB.out).mono ?_
  rintro e w1 ⟨hf1, v1, v2, r, rfl, hr0⟩
  have f1 : Fr [] w w1 := hfW.trans hf1 (by simp)
  replace c0 := hf1.cell c0 (by simp)
  replace c1 := hf1.cell c1 (by simp)
  replace d0 := hf1.cell d0 (by simp)
  replace d1 := hf1.cell d1 (by simp)
  replace g0 := hf1.cell g0 (by simp)
  replace g1 := hf1.cell g1 (by simp)
  replace gf : ∀ i, w1.frozen? ⟨w.heap.size + 1 + 1, i, none⟩ = false := fun i => (hf1.frozenE (p := ⟨w.heap.size + 1 + 1, i, none⟩) hs (by simp)).trans (gf i)
  replace HS := hid (show w.heap.size + 3 ≤ w1.heap.size by have := HS.out; have := hf1.size; omega)
  replace hs : w.heap.size + 1 + 1 < w1.heap.size := Nat.lt_of_lt_of_le hs hf1.size
  replace hs1 : w.heap.size + 1 < w1.heap.size := Nat.lt_of_lt_of_le hs1 hf1.size
  replace hs0 : w.heap.size < w1.heap.size := Nat.lt_of_lt_of_le hs0 hf1.size
  have fin : ∀ (u v : Value), Fr [] w ((w1.setCell ⟨w.heap.size + 1 + 1, 0, none⟩ u).setCell ⟨w.heap.size + 1 + 1, 1, none⟩ v) := fun u v =>
    (f1.setCell (.inr (by simp; omega)) _).setCell (.inr (by simp; omega)) _
  have HF := hid fin
  clear fin
  by_cases hz : r = 0
  · obtain ⟨hA0, hB0⟩ := hr0 hz
    subst hz
    obtain ⟨n1, -, la0, la1⟩ := endsF_len (HOA.out hA0)
    obtain ⟨n2, -, lb0, lb1⟩ := endsF_len (HOB.out hB0)
    have hgb := endsF_ok (HOB.out hB0)
    have HG := hid hgb
    have HA0 := hid hA0
    have HB0 := hid hB0
    clear hr0 hA0 hB0 hgb
    have hq : (200 : Int) < (al.length : Int) + bl.length ∨ ((al.length : Int) + bl.length ≤ 200 ∧ 200 < La + Lb) ∨ ((al.length : Int) + bl.length ≤ 200 ∧ La + Lb ≤ 200) := by omega
    rcases hq with h1 | ⟨h1, h2⟩ | ⟨h1, h2⟩
    iterate 2
      focus
        go_wp2
        refine bodyPost_ret (v := .tuple #[.agg #[.slice none 0 0, .int .i64 0], .int .i64 2]) ?_ rfl ⟨2, ⟨?_, .inl ⟨by simp, rfl⟩⟩, by simp⟩
        · simp [results, Tryz.results14, go_sem, hs, g0, g1]
        · exact HF.out _ _
    go_wp2_with fail
    refine (union_any al bl A B capA capB La Lb w1 (hra.fr0 f1) (hrb.fr0 f1) n1 n2 HG.out ⟨la0, la1⟩ ⟨lb0, lb1⟩).mono ?_
    rintro e w2 ⟨A', c', rfl, hf2, hown⟩
    replace g0 := hf2.cell g0 (by simp)
    replace g1 := hf2.cell g1 (by simp)
    replace gf : ∀ i, w2.frozen? ⟨w.heap.size + 1 + 1, i, none⟩ = false := fun i => (hf2.frozenE (p := ⟨w.heap.size + 1 + 1, i, none⟩) hs (by simp)).trans (gf i)
    have hsz : w.heap.size + 1 + 1 < w2.heap.size := Nat.lt_of_lt_of_le hs hf2.size
    go_wp2
    refine bodyPost_ret (v := .tuple #[.agg #[.slice A' (al.length + bl.length) c', .int .i64 (La + Lb)], .int .i64 0]) ?_ rfl ⟨0, ⟨?_, .inr ⟨rfl, A', c', by rw [unionF_len], ?_⟩⟩, fun _ => ⟨HA0.out, HB0.out, by omega, h2⟩⟩
    · simp [results, Tryz.results14, go_sem, hsz, g0, g1]
    · exact ((f1.trans hf2 (by simp)).setCell (.inr (by simp; omega)) _).setCell (.inr (by simp; omega)) _
    · rw [unionF_len]
      have hA : ∀ a, A' = some a → w1.heap.size ≤ a.block := fun a ha => (hown.addr a ha).1
      have hs3 := HS.out
      exact ((hown.setCell (p := ⟨w.heap.size + 1 + 1, 0, none⟩) _ (fun a ha => by have := hA a ha; simp; omega)).setCell (p := ⟨w.heap.size + 1 + 1, 1, none⟩) _ (fun a ha => by have := hA a ha; simp; omega)).base (by omega)
  · have h0' : (r != 0) = true := by simpa using hz
    clear hr0
    go_wp2
    refine bodyPost_ret (v := .tuple #[.agg #[.slice none 0 0, .int .i64 0], .int .i64 r]) ?_ rfl ⟨r, ⟨?_, .inl ⟨hz, rfl⟩⟩, fun h => absurd h hz⟩
    · simp [results, Tryz.results14, go_sem, hs, g0, g1]
    · exact HF.out _ _
end Go.Proofs.YtjmgjkcjnjlpdaaGreatDoor
