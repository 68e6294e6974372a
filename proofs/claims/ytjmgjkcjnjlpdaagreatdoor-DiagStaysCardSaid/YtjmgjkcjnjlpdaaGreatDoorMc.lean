/- sphenoidlaw22.DiagStays: a part of its proof: walks of the functions that it comes to, and plain laws (D4, D5, D6, D7, D8, D9). -/
import Derived.Test.YtjmgjkcjnjlpdaaGreatDoorMb
import Derived.Test.YtjmgjkcjnjlpdaaGreatDoorMa
set_option linter.unusedVariables false
set_option linter.unusedSimpArgs false
set_option linter.unusedSectionVars false
/-! ## D4 -/
namespace Go.Proofs.YtjmgjkcjnjlpdaaGreatDoor
open Go.RowKit

/-- A pointer to a diagram with the places of its arcs. -/
structure DiagAt (w : World) (p : Nat) (A : Option Addr) (cap : Nat) (cs : List Cr) (L : Int) (B : Option Addr) (capB : Nat) (l : List AE) : Prop where
  c0 : w.cell? ⟨p, 0, none⟩ = some (.slice A cs.length cap)
  c1 : w.cell? ⟨p, 1, none⟩ = some (.int .i64 L)
  c2 : w.cell? ⟨p, 2, none⟩ = some (.slice B l.length capB)
  rc : Rd w A (crCells cs)
  ra : Rd w B (aeCells l)
  n2 : cs.length ≤ 200
  lt : p < w.heap.size

theorem DiagAt.fr {w w' : World} {p : Nat} {A cap cs L B capB l} (h : DiagAt w p A cap cs L B capB l) (hf : Fr [] w w') : DiagAt w' p A cap cs L B capB l :=
  ⟨hf.cell h.c0 (by simp), hf.cell h.c1 (by simp), hf.cell h.c2 (by simp), h.rc.fr0 hf, h.ra.fr0 hf, h.n2, Nat.lt_of_lt_of_le h.lt hf.size⟩
theorem DiagAt.frS {w w' : World} {S : List Nat} {N : Nat} {p : Nat} {A cap cs L B capB l} (h : DiagAt w p A cap cs L B capB l) (hf : Fr S w w') (hS : ∀ b ∈ S, N ≤ b) (hN : p < N) (hA : Rd w A (crCells cs) → crCells cs ≠ [] → ∀ a, A = some a → a.block < N) (hB : Rd w B (aeCells l) → aeCells l ≠ [] → ∀ a, B = some a → a.block < N) : DiagAt w' p A cap cs L B capB l := by
  have hn : ∀ b, b < N → b ∉ S := fun b hb hm => by have := hS b hm; omega
  exact ⟨hf.cell h.c0 (hn _ hN), hf.cell h.c1 (hn _ hN), hf.cell h.c2 (hn _ hN), h.rc.fr hf (fun hx a ha => hn _ (hA h.rc hx a ha)), h.ra.fr hf (fun hx a ha => hn _ (hB h.ra hx a ha)), h.n2, Nat.lt_of_lt_of_le h.lt hf.size⟩

/-- The four cells of the arc a. -/
theorem Rd.ae {w : World} {A : Option Addr} {l : List AE} (h : Rd w A (aeCells l)) {i : Nat} {x : AE} (hi : l[i]? = some x) :
    ∃ b off, A = some ⟨b, off, none⟩ ∧ b < w.heap.size ∧ w.cell? ⟨b, off + i * 4, none⟩ = some (.int .i64 x.bc) ∧ w.cell? ⟨b, off + i * 4 + 1, none⟩ = some (.int .i64 x.bp) ∧
      w.cell? ⟨b, off + i * 4 + 2, none⟩ = some (.int .i64 x.ec) ∧ w.cell? ⟨b, off + i * 4 + 3, none⟩ = some (.int .i64 x.ep) := by
  obtain ⟨b, off, e, hb, hc⟩ := Rd.elem (f := AE.cells) (k := 4) (fun _ => rfl) (by omega) h hi
  exact ⟨b, off, e, hb, hc 0 _ rfl, hc 1 _ rfl, hc 2 _ rfl, hc 3 _ rfl⟩

/-- the arc's cell at a place -/
theorem Rd.crArc {w : World} {A : Option Addr} {l : List Cr} (h : Rd w A (crCells l)) {i : Nat} {x : Cr} (hi : l[i]? = some x) (p : Nat) (hp : p < 4) :
    ∃ b off, A = some ⟨b, off, none⟩ ∧ b < w.heap.size ∧ w.cell? ⟨b, off + i * 5 + p, none⟩ = some (.int .i64 (x.arc p)) := by
  obtain ⟨b, off, e, hb, c0, c1, c2, c3, c4⟩ := h.cr hi
  refine ⟨b, off, e, hb, ?_⟩
  match p, hp with
  | 0, _ => exact c0
  | 1, _ => exact c1
  | 2, _ => exact c2
  | 3, _ => exact c3

/-- The other place of the arc at a place. -/
def otherF (cs : List Cr) (l : List AE) (i p : Nat) : Option (Int × Int) :=
  match cs[i]? with
  | none => none
  | some x => if p < 4 ∧ 0 ≤ x.arc p then
      match l[(x.arc p).toNat]? with
      | none => none
      | some y => if y.bc = i ∧ y.bp = p then some (y.ec, y.ep) else some (y.bc, y.bp)
    else none

set_option maxHeartbeats 400000 in
theorem other_any {w : World} {p : Nat} {A cap cs L B capB l} (h : DiagAt w p A cap cs L B capB l) (i q : Nat) (r : Int × Int) (hr : otherF cs l i q = some r) :
    Calls Tryz.prog 52 #[.pointer (some ⟨p, 0, none⟩), .agg #[.int .i64 i, .int .i64 q]] w fun e w' =>
      e = .returned (.agg #[.int .i64 r.1, .int .i64 r.2]) ∧ Fr [] w w' := by
  unfold otherF at hr
  split at hr
  · cases hr
  rename_i x hx
  split at hr
  case isFalse => cases hr
  rename_i hq
  split at hr
  · cases hr
  rename_i y hy
  have hxi : i < cs.length := (List.getElem?_eq_some_iff.1 hx).1
  have hyi : (x.arc q).toNat < l.length := (List.getElem?_eq_some_iff.1 hy).1
  obtain ⟨hq4, h0⟩ := hq
  obtain ⟨a, ha⟩ := Int.eq_ofNat_of_zero_le h0
  obtain ⟨b, off, rfl, hb, hcx⟩ := h.rc.crArc hx q hq4
  rw [ha] at hy hcx hyi h0
  simp only [Int.toNat_natCast] at hy hyi
  obtain ⟨b', off', rfl, hb', y0, y1, y2, y3⟩ := h.ra.ae hy
  have hn2 := h.n2
  have d0 := h.c0
  have d2 := h.c2
  have hp := h.lt
  have hq5 : (q : Int) < 4 := by omega
  have HA := hid ha
  clear ha hx hy h
  go_enter Tryz.func52, Tryz.ntmps52
  go_wp2
  obtain ⟨W, hW⟩ : ∃ W, W = (w.alloc (.cells #[.int .i64 (i : Int), .int .i64 (q : Int)] 75)).alloc (.cells #[.int .i64 0, .int .i64 0] 75) := ⟨_, rfl⟩
  have hf : Fr [] w W := by rw [hW]; exact ((Fr.refl _ _).alloc _).alloc _
  have k0 : W.cell? ⟨w.heap.size, 0, none⟩ = some (.int .i64 i) := by rw [hW]; go_simp
  have k1 : W.cell? ⟨w.heap.size, 1, none⟩ = some (.int .i64 q) := by rw [hW]; go_simp
  have r0 : W.cell? ⟨w.heap.size + 1, 0, none⟩ = some (.int .i64 0) := by rw [hW]; go_simp
  have r1 : W.cell? ⟨w.heap.size + 1, 1, none⟩ = some (.int .i64 0) := by rw [hW]; go_simp
  have rf : ∀ i, W.frozen? ⟨w.heap.size + 1, i, none⟩ = false := fun i => by rw [hW]; go_simp
  have hs : W.heap.size = w.heap.size + 2 := by rw [hW]; simp
  have HS := hid hs
  have hs0 : w.heap.size < W.heap.size := by omega
  have hs1 : w.heap.size + 1 < W.heap.size := by omega
  rw [← hW]
  clear hs hW
  replace d0 := hf.cell d0 (by simp)
  replace d2 := hf.cell d2 (by simp)
  replace hcx := hf.cell hcx (by simp)
  replace y0 := hf.cell y0 (by simp)
  replace y1 := hf.cell y1 (by simp)
  replace y2 := hf.cell y2 (by simp)
  replace y3 := hf.cell y3 (by simp)
  replace hb := Nat.lt_of_lt_of_le hb hf.size
  replace hb' := Nat.lt_of_lt_of_le hb' hf.size
  replace hp := Nat.lt_of_lt_of_le hp hf.size
  have hr2 : (r = (y.ec, y.ep) ∧ y.bc = i ∧ y.bp = q) ∨ (r = (y.bc, y.bp) ∧ ¬ (y.bc = i ∧ y.bp = q)) := by
    split at hr
    · exact .inl ⟨(Option.some.inj hr).symm, by assumption⟩
    · exact .inr ⟨(Option.some.inj hr).symm, by assumption⟩
  clear hr
  have HR := hid hr2
  clear hr2
  go_region
  all_goals go_wp2
  all_goals
    refine bodyPost_ret (v := .agg #[.int .i64 r.1, .int .i64 r.2]) ?_ rfl ⟨rfl, ?_⟩
    · obtain ⟨rfl, h1, h2⟩ | ⟨rfl, h1⟩ := HR.out
      all_goals first
        | (exfalso; omega)
        | (simp [results, Tryz.results52, go_sem, r0, r1, hs1, *]; try omega)
    · refine Fr.drew (Fr.alloc (Fr.setCell (Fr.setCell hf (.inr ?_) _) (.inr ?_) _) _)
      all_goals simp
end Go.Proofs.YtjmgjkcjnjlpdaaGreatDoor

/-! ## D5 -/
namespace Go.Proofs.YtjmgjkcjnjlpdaaGreatDoor
open Go.RowKit

/-- The arc behind an arc. -/
def nextF (cs : List Cr) (l : List AE) (a : Nat) : Option Int :=
  match l[a]? with
  | none => none
  | some y => if 0 ≤ y.ec ∧ 0 ≤ y.ep ∧ y.ep < 4 then
      match cs[y.ec.toNat]? with
      | none => none
      | some x => some (x.arc ((y.ep.toNat + 2) % 4))
    else none

set_option maxHeartbeats 400000 in
theorem next_any {w : World} {p : Nat} {A cap cs L B capB l} (h : DiagAt w p A cap cs L B capB l) (a : Nat) (r : Int) (hr : nextF cs l a = some r) :
    Calls Tryz.prog 46 #[.pointer (some ⟨p, 0, none⟩), .int .i64 a] w fun e w' => e = .returned (.int .i64 r) ∧ Fr [] w w' := by
  unfold nextF at hr
  split at hr
  · cases hr
  rename_i y hy
  split at hr
  case isFalse => cases hr
  rename_i hq
  split at hr
  · cases hr
  rename_i x hx
  obtain ⟨he0, hp0, hp4⟩ := hq
  have hyi : a < l.length := (List.getElem?_eq_some_iff.1 hy).1
  obtain ⟨b', off', rfl, hb', y0, y1, y2, y3⟩ := h.ra.ae hy
  obtain ⟨bc, bp, ec, ep⟩ := y
  simp only at he0 hp0 hp4 hx hr y0 y1 y2 y3
  obtain ⟨ec, rfl⟩ := Int.eq_ofNat_of_zero_le he0
  obtain ⟨ep, rfl⟩ := Int.eq_ofNat_of_zero_le hp0
  simp only [Int.toNat_natCast, Option.some.injEq] at hx hr
  have hxi : ec < cs.length := (List.getElem?_eq_some_iff.1 hx).1
  obtain ⟨b, off, rfl, hb, hcx⟩ := h.rc.crArc hx ((ep + 2) % 4) (by omega)
  rw [hr] at hcx
  have hn2 := h.n2
  have d0 := h.c0
  have d2 := h.c2
  have hp := h.lt
  have hw : IntKind.i64.wrap ((ep : Int) + 2) = (ep : Int) + 2 := IntWalk.i64_in _ (by omega)
  have hm0 : 0 ≤ ((ep + 2) % 4 : Nat) := Nat.zero_le _
  have hm4 : (ep + 2) % 4 < 4 := by omega
  have ht : ((ep : Int) + 2).tmod 4 = (((ep + 2) % 4 : Nat) : Int) := by
    rw [Int.tmod_eq_emod_of_nonneg (by omega)]; omega
  clear hx hy hr h
  go_enter Tryz.func46, Tryz.ntmps46
  go_wp2
  go_region
  all_goals
    go_wp2
    go_ret
    exact ⟨rfl, ((Fr.refl _ _).alloc _).drew⟩
end Go.Proofs.YtjmgjkcjnjlpdaaGreatDoor

/-! ## D6 -/
namespace Go.Proofs.YtjmgjkcjnjlpdaaGreatDoor
open Go.RowKit

def bfsP (cs : List Cr) (l : List AE) (n q : Nat) : List Nat → List Int → List Nat → Option (List Int × List Nat)
  | [], of, qu => some (of, qu)
  | p :: r, of, qu =>
    match otherF cs l q p with
    | none => none
    | some e => if 0 ≤ e.1 then
        match of[e.1.toNat]? with
        | none => none
        | some v => if v < 0 then bfsP cs l n q r (of.set e.1.toNat n) (qu ++ [e.1.toNat]) else bfsP cs l n q r of qu
      else none

def bfsQ (cs : List Cr) (l : List AE) (n : Nat) : Nat → Nat → List Int → List Nat → Option (List Int)
  | 0, _, _, _ => none
  | f + 1, k, of, qu =>
    match qu[k]? with
    | none => some of
    | some q => (bfsP cs l n q [0, 1, 2, 3] of qu).bind fun s => bfsQ cs l n f (k + 1) s.1 s.2

def pcs (cs : List Cr) (l : List AE) : List Nat → List Int → Nat → Option (List Int × Nat)
  | [], of, n => some (of, n)
  | i :: r, of, n =>
    match of[i]? with
    | none => none
    | some v => if 0 ≤ v then pcs cs l r of n else (bfsQ cs l n (cs.length + 1) 0 (of.set i n) [i]).bind fun of' => pcs cs l r of' (n + 1)

def piecesF (cs : List Cr) (l : List AE) : Option (List Int × Nat) := pcs cs l (List.range cs.length) (List.replicate cs.length (-1)) 0

/-- what the walk of a piece holds -/
structure QR (w : World) (n : Nat) (of : List Int) (A : Option Addr) (cap : Nat) (qu : List Nat) (wr : World) : Prop where
  fr : Fr [] w wr
  row : RowAt wr w.heap.size 3 (ints of)
  len : of.length = n
  own : OwnR wr (w.heap.size + 1) 3 1 A qu.length cap (nats qu)

theorem QR.size {w : World} {n of A cap qu wr} (h : QR w n of A cap qu wr) : w.heap.size < wr.heap.size := h.row.lt

set_option maxHeartbeats 2000000 in
set_option maxRecDepth 100000 in
theorem pieces_any {w : World} {p : Nat} {A cap cs L B capB l} (h : DiagAt w p A cap cs L B capB l) (of : List Int) (n : Nat) (hr : piecesF cs l = some (of, n)) :
    Calls Tryz.prog 36 #[.pointer (some ⟨p, 0, none⟩)] w fun e w' =>
      e = .returned (.tuple #[.slice (some ⟨w.heap.size, 0, none⟩) cs.length cs.length, .int .i64 n]) ∧ Fr [] w w' ∧ RowAt w' w.heap.size 3 (ints of) ∧ of.length = cs.length := by
  have HR := hid hr
  clear hr
  have hmk := fun W => run_make_ints (P := Tryz.prog) 25 3 (by kernel_rfl) (by kernel_rfl) (cs.length : Int) cs.length (by omega) (by have := h.n2; omega) W
  have hfd : ∀ x y W, (Instr.field 75 (.agg #[.int .i64 x, .int .i64 y]) 0).run Tryz.prog W = .ok (.int .i64 x) W := fun _ _ _ => by kernel_rfl
  have d0 := h.c0
  have hn2 := h.n2
  have hp := h.lt
  go_enter Tryz.func36, Tryz.ntmps36
  go_wp2
  go_loopw [21] (fun i wr => ∃ (a : Nat), a ≤ cs.length ∧ i = .int .i64 a ∧ Fr [] w wr ∧ RowAt wr w.heap.size 3 (ints ((List.range a).map (fun _ => (-1 : Int)) ++ List.replicate (cs.length - a) 0))) (fun i _ => cs.length - (intOf i).toNat)
  case atStart =>
    refine ⟨0, by omega, rfl, Fr.alloc1 _ _, ?_⟩
    have := RowAt.new w 3 (ints (List.replicate cs.length (0 : Int)))
    simpa using this
  case round =>
    obtain ⟨a, ha, rfl, hf, hrow⟩ := hrel
    by_cases hlt : a < cs.length
    · have hz : ((List.range a).map (fun _ => (-1 : Int)) ++ List.replicate (cs.length - a) 0)[a]? = some 0 := by
        rw [List.getElem?_append_right (by simp), List.length_map, List.length_range, Nat.sub_self, List.getElem?_replicate, if_pos (by omega)]
      have s0 : wr.cell? ⟨w.heap.size, a, none⟩ = some (.int .i64 0) := by rw [hrow.cell]; exact ints_get hz
      have fz := fun i => hrow.frozen i
      clear hz
      go_wp2
      go_roundw
      case rel =>
        refine ⟨a + 1, by omega, by go_num, hf.setCell (.inr (by simp)) _, ?_⟩
        have := hrow.set a (.int .i64 (-1))
        rw [ints_set, set_fill (fun _ => (-1 : Int)) _ _ _ hlt] at this
        exact this
      case measure => simp [intOf]; omega
    · obtain rfl : a = cs.length := by omega
      have e1 : (List.range cs.length).map (fun _ => (-1 : Int)) ++ List.replicate (cs.length - cs.length) 0 = List.replicate cs.length (-1) := by
        simp [List.map_const']
      rw [e1] at hrow
      clear e1
      go_wp2
      go_loopw [30, 6] (fun iv nv wr => ∃ (i m : Nat) (of' : List Int), i ≤ cs.length ∧ m ≤ i ∧ iv = .int .i64 i ∧ nv = .int .i64 m ∧ pcs cs l (List.range' i (cs.length - i)) of' m = some (of, n) ∧
          Fr [] w wr ∧ RowAt wr w.heap.size 3 (ints of') ∧ of'.length = cs.length) (fun iv _ _ => cs.length - (intOf iv).toNat)
      case atStart =>
        refine ⟨0, 0, List.replicate cs.length (-1), by omega, by omega, rfl, rfl, ?_, hf, hrow, by simp⟩
        have := HR.out
        unfold piecesF at this
        rw [List.range_eq_range'] at this
        exact this
      case round =>
        obtain ⟨i, m, of', hi, hm, rfl, rfl, hP, hf2, hrow2, hlen⟩ := hrel
        clear hf hrow
        by_cases hlt2 : i < cs.length
        · have el : List.range' i (cs.length - i) = i :: List.range' (i + 1) (cs.length - (i + 1)) := by
            rw [show cs.length - i = (cs.length - (i + 1)) + 1 by omega]; rfl
          rw [el] at hP
          clear el
          obtain ⟨v, hv⟩ : ∃ v, of'[i]? = some v := ⟨_, List.getElem?_eq_getElem (by omega)⟩
          simp only [pcs, hv] at hP
          have s0 : wr.cell? ⟨w.heap.size, i, none⟩ = some (.int .i64 v) := by rw [hrow2.cell]; exact ints_get hv
          have fz := fun i => hrow2.frozen i
          by_cases hv0 : 0 ≤ v
          · rw [if_pos hv0] at hP
            have HP := hid hP
            have HL := hid hlen
            clear hP hv hlen
            go_wp2
            go_roundw
            case rel => exact ⟨i + 1, m, of', by omega, by omega, by go_num, rfl, HP.out, hf2, hrow2, HL.out⟩
            case measure => simp [intOf]; omega
          · rw [if_neg hv0] at hP
            obtain ⟨of2, hB, hP2⟩ := Option.bind_eq_some_iff.1 hP
            clear hP
            have HP := hid hP2
            have HL := hid hlen
            have HB := hid hB
            clear hP2 hv hlen hB
            go_wp2
            obtain ⟨wq, hwq⟩ : ∃ wq, wq = (wr.setCell ⟨w.heap.size, i, none⟩ (.int .i64 m)).alloc (.cells #[.int .i64 i] 3) := ⟨_, rfl⟩
            have hq : QR w cs.length (of'.set i m) (some ⟨wr.heap.size, 0, none⟩) 1 [i] wq := by
              rw [hwq]
              refine ⟨(hf2.setCell (.inr (by simp)) _).alloc _, ?_, by simp [HL.out], ?_⟩
              · have := (hrow2.set i (.int .i64 m)).alloc (.cells #[.int .i64 i] 3)
                rw [ints_set] at this; exact this
              · exact OwnR.of_row (RowAt.new' (wr.setCell ⟨w.heap.size, i, none⟩ (.int .i64 m)) 3 (nats [i]) wr.heap.size (by simp)) (by have := hrow2.lt; omega) (by simp [nats]) (by simp [maxLen])
            rw [← hwq]
            clear hwq
            go_loopw [9, 8] (fun kv v wr => ∃ (k f : Nat) (of3 : List Int) (qu : List Nat) (Aq : Option Addr) (cq : Nat), k + f = cs.length + 1 ∧ kv = .int .i64 k ∧ v = .slice Aq qu.length cq ∧ qu.length ≤ 4 * k + 1 ∧
                bfsQ cs l m f k of3 qu = some of2 ∧ QR w cs.length of3 Aq cq qu wr) (fun kv _ _ => cs.length + 1 - (intOf kv).toNat)
            case atStart => exact ⟨0, cs.length + 1, _, [i], _, _, by omega, rfl, rfl, by simp, HB.out, hq⟩
            case round =>
              obtain ⟨k, f, of3, qu, Aq, cq, hkf, rfl, rfl, hql, hB, hQ⟩ := hrel
              clear hq
              cases f with
              | zero => cases hB
              | succ f =>
                by_cases hlt3 : k < qu.length
                · obtain ⟨q, hq⟩ : ∃ q, qu[k]? = some q := ⟨_, List.getElem?_eq_getElem hlt3⟩
                  simp only [bfsQ, hq] at hB
                  obtain ⟨⟨of4, qu4⟩, hB1, hB2⟩ := Option.bind_eq_some_iff.1 hB
                  have HB1 := hid hB1
                  have HB2 := hid hB2
                  clear hB hB1 hB2
                  obtain ⟨gq, rfl⟩ : ∃ g, Aq = some ⟨g, 0, none⟩ := by
                    rcases hQ.own.form with ⟨_, h2, _⟩ | ⟨g, h⟩
                    · omega
                    · exact ⟨g, h⟩
                  obtain ⟨wo, hwo⟩ : ∃ wo : World, wo = wr := ⟨_, rfl⟩
                  rw [← hwo] at hQ ⊢
                  clear hwo
                  go_wp2
                  go_loopw [50, 8] (fun pv v wr => ∃ (j : Nat) (of5 : List Int) (qu5 : List Nat) (g5 c5 : Nat), j ≤ 4 ∧ pv = .int .i64 j ∧ v = .slice (some ⟨g5, 0, none⟩) qu5.length c5 ∧ qu5.length ≤ 4 * k + 1 + j ∧
                      qu5[k]? = some q ∧ bfsP cs l m q (List.range' j (4 - j)) of5 qu5 = some (of4, qu4) ∧ QR w cs.length of5 (some ⟨g5, 0, none⟩) c5 qu5 wr) (fun pv _ _ => 4 - (intOf pv).toNat)
                  case atStart => exact ⟨0, of3, qu, gq, cq, by omega, rfl, rfl, by omega, hq, HB1.out, hQ⟩
                  case round =>
                    obtain ⟨j, of5, qu5, g5, c5, hj, rfl, rfl, hq5, hqk, hP5, hQ5⟩ := hrel
                    have hk5 : k < qu5.length := (List.getElem?_eq_some_iff.1 hqk).1
                    by_cases hj4 : j < 4
                    · have el : List.range' j (4 - j) = j :: List.range' (j + 1) (4 - (j + 1)) := by
                        rw [show 4 - j = (4 - (j + 1)) + 1 by omega]; rfl
                      rw [el] at hP5
                      clear el
                      simp only [bfsP] at hP5
                      cases ho : otherF cs l q j with
                      | none => rw [ho] at hP5; cases hP5
                      | some e =>
                        obtain ⟨e1, e2⟩ := e
                        rw [ho] at hP5
                        simp only at hP5
                        split at hP5
                        case isFalse => cases hP5
                        rename_i he0
                        obtain ⟨e1, rfl⟩ := Int.eq_ofNat_of_zero_le he0
                        simp only [Int.toNat_natCast] at hP5
                        cases hv5 : of5[e1]? with
                        | none => rw [hv5] at hP5; cases hP5
                        | some v5 =>
                          rw [hv5] at hP5
                          simp only at hP5
                          have he1 : e1 < cs.length := by rw [← hQ5.len]; exact (List.getElem?_eq_some_iff.1 hv5).1
                          have kq : wr.cell? ⟨g5, k, none⟩ = some (.int .i64 q) := hQ5.own.cellAt (nats_get hqk)
                          have hD := hid (h.fr hQ5.fr)
                          have HO := hid ho
                          have HK := hid hqk
                          have hv6 := hid hv5
                          clear ho hqk hq hv5
                          by_cases hvn : v5 < 0
                          · rw [if_pos hvn] at hP5
                            have HP5 := hid hP5
                            clear hP5
                            go_wp2_with (first
                              | (go_at_call 52; refine (other_any hD.out q j _ HO.out).mono ?_; rintro e w2 ⟨rfl, hf6⟩; have hr6 := hQ5.row.fr hf6 (by simp); have s6 : w2.cell? ⟨w.heap.size, e1, none⟩ = some (.int .i64 v5) := by { rw [hr6.cell]; exact ints_get hv6.out }; have fz6 := fun i => hr6.frozen i)
                              | (at_builtin; refine wpList_append1 _ rfl _ _ 25 rfl (w.heap.size + 1) 3 1 8 #[.int .i64 0] (by kernel_rfl) (by kernel_rfl) rfl (by omega) _ _ _ (nats qu5) rfl (((hQ5.own.fr hf6 (by simp)).setCell _ (by have := hQ5.own.addr _ rfl; simp at this; simp; omega)).alloc _) w2.heap.size [.int .i64 e1] rfl rfl (RowAt.new' _ _ _ _ (by simp)) (by simp [Value.oneCell']) (by omega) (by omega) (by have := hr6.lt; simp; omega) ?_; intro A7 c7 w7 hown7 hfr7 hlies7))
                            go_roundw
                            case rel =>
                              have hl5 : (qu5 ++ [e1]).length = qu5.length + 1 := by simp
                              rw [nats_snoc] at hown7
                              have hne : w.heap.size ∉ ablocks (some ⟨g5, 0, none⟩) := by
                                rw [mem_ablocks]; rintro ⟨a, h1, ha⟩; have := hQ5.own.addr _ h1; omega
                              obtain ⟨g7, rfl⟩ : ∃ g, A7 = some ⟨g, 0, none⟩ := by
                                rcases hown7.form with ⟨_, h2, _⟩ | ⟨g, h⟩
                                · omega
                                · exact ⟨g, h⟩
                              refine ⟨j + 1, of5.set e1 m, qu5 ++ [e1], g7, c7, by omega, by go_num, by rw [hl5], by omega, ?_, HP5.out, ⟨?_, ?_, by simp [hQ5.len], by rw [hl5]; exact hown7⟩⟩
                              · rw [List.getElem?_append_left hk5]; exact HK.out
                              · refine Fr.trans (S' := ablocks (some ⟨g5, 0, none⟩)) (((hQ5.fr.then hf6).setCell (.inr (by simp)) _).alloc _) hfr7 ?_
                                intro x hx
                                obtain ⟨a, h1, rfl⟩ := mem_ablocks.1 hx
                                have := hQ5.own.addr _ h1
                                exact .inr (by omega)
                              · have := ((hr6.set e1 (.int .i64 m)).alloc (.cells #[.int .i64 e1] 3)).fr hfr7 hne
                                rwa [ints_set] at this
                            case measure => simp [intOf]; omega
                          · rw [if_neg hvn] at hP5
                            have HP5 := hid hP5
                            clear hP5
                            go_wp2_with (first
                              | (go_at_call 52; refine (other_any hD.out q j _ HO.out).mono ?_; rintro e w2 ⟨rfl, hf6⟩; have hr6 := hQ5.row.fr hf6 (by simp); have s6 : w2.cell? ⟨w.heap.size, e1, none⟩ = some (.int .i64 v5) := by { rw [hr6.cell]; exact ints_get hv6.out }; have fz6 := fun i => hr6.frozen i))
                            go_roundw
                            case rel =>
                              exact ⟨j + 1, of5, qu5, g5, c5, by omega, by go_num, rfl, by omega, HK.out, HP5.out, ⟨hQ5.fr.then hf6, hr6, hQ5.len, hQ5.own.fr hf6 (by simp)⟩⟩
                            case measure => simp [intOf]; omega
                    · obtain rfl : j = 4 := by omega
                      simp only [Nat.sub_self, List.range'_zero, bfsP, Option.some.injEq, Prod.mk.injEq] at hP5
                      obtain ⟨rfl, rfl⟩ := hP5
                      go_wp2
                      go_roundw
                      case rel => exact ⟨k + 1, f, _, _, _, _, by omega, by go_num, rfl, by omega, HB2.out, hQ5⟩
                      case measure => simp [intOf]; omega
                · have e1 : qu[k]? = none := List.getElem?_eq_none (by omega)
                  simp only [bfsQ, e1, Option.some.injEq] at hB
                  subst hB
                  clear e1
                  go_wp2
                  go_roundw
                  case rel => exact ⟨i + 1, m + 1, of3, by omega, by omega, by go_num, by go_num, HP.out, hQ.fr, hQ.row, hQ.len⟩
                  case measure => simp [intOf]; omega
        · obtain rfl : i = cs.length := by omega
          simp only [Nat.sub_self, List.range'_zero, pcs, Option.some.injEq, Prod.mk.injEq] at hP
          obtain ⟨rfl, rfl⟩ := hP
          have HL := hid hlen
          clear hlen
          go_wp2
          go_ret2
          exact ⟨rfl, hf2, hrow2, HL.out⟩
end Go.Proofs.YtjmgjkcjnjlpdaaGreatDoor

/-! ## D7 -/
namespace Go.Proofs.YtjmgjkcjnjlpdaaGreatDoor
open Go.RowKit

attribute [local go_sem] Oper.semAt_some

/-- the next place of a region -/
def stepF (cs : List Cr) (l : List AE) (e : Nat × Nat) : Option (Nat × Nat) :=
  match otherF cs l e.1 e.2 with
  | none => none
  | some r => if 0 ≤ r.1 ∧ 0 ≤ r.2 ∧ r.2 < 4 then some (r.1.toNat, (r.2.toNat + 3) % 4) else none

def orbF (cs : List Cr) (l : List AE) (e0 : Nat × Nat) : Nat → Nat × Nat → Option (List (Nat × Nat))
  | 0, _ => none
  | f + 1, e =>
    match stepF cs l e with
    | none => none
    | some e' => if e' = e0 then some [e] else (orbF cs l e0 f e').map (e :: ·)

def encPl (x : Nat × Nat) : Array Value := #[.agg #[.int .i64 x.1, .int .i64 x.2]]

set_option maxHeartbeats 400000 in
theorem around_any (p : Nat) (i q : Nat) (w : World) :
    Calls Tryz.prog 47 #[.pointer (some ⟨p, 0, none⟩), .agg #[.int .i64 i, .int .i64 q]] w fun e w' =>
      e = .returned (.func (.func 64) #[] #[.pointer (some ⟨w.heap.size + 1, 0, none⟩), .pointer (some ⟨w.heap.size, 0, none⟩)]) ∧
        (w.alloc (.cells #[.pointer (some ⟨p, 0, none⟩)] 48)).alloc (.cells #[.int .i64 i, .int .i64 q] 75) = w' := by
  have hmf : ∀ (fn : Fn) (first cap : Array Value) (w : World), (Instr.makeFunc fn first cap).run Tryz.prog w = .ok (.func fn first cap) w := fun _ _ _ _ => rfl
  go_enter Tryz.func47, Tryz.ntmps47
  go_wp2
  go_ret
  exact ⟨rfl, rfl⟩

set_option maxHeartbeats 1000000 in
set_option maxRecDepth 100000 in
theorem around1_iter {w : World} {p : Nat} {A cap cs L B capB l} (h : DiagAt w p A cap cs L B capB l) (N : Nat) (hN : N ≤ w.heap.size) (hpN : p < N) (hA : crCells cs ≠ [] → ∀ a, A = some a → a.block < N) (hB : aeCells l ≠ [] → ∀ a, B = some a → a.block < N)
    (ze zd : Nat) (e0 : Nat × Nat) (he0 : w.cell? ⟨ze, 0, none⟩ = some (.int .i64 e0.1)) (he1 : w.cell? ⟨ze, 1, none⟩ = some (.int .i64 e0.2)) (hd : w.cell? ⟨zd, 0, none⟩ = some (.pointer (some ⟨p, 0, none⟩)))
    (hze : ze < w.heap.size) (hzd : zd < w.heap.size) (f : Nat) (xs : List (Nat × Nat)) (hx : orbF cs l e0 f e0 = some xs) (n : Nat) :
    IterF Tryz.prog n 64 #[.pointer (some ⟨ze, 0, none⟩), .pointer (some ⟨zd, 0, none⟩)] encPl xs (fun k => k < N ∨ k = ze ∨ k = zd) w := by
  intro lp J Jx W O0 hw hJ hJx hO0 hY h0
  refine callsIn_of_wp Tryz.func64 rfl trivial ?_ rfl
  simp only [Tryz.ntmps64, List.size_toArray, List.length_cons, List.length_nil, Nat.reduceAdd, Nat.reduceSub, Array.replicate_succ, Array.replicate_zero, List.push_toArray, List.append_toArray, List.nil_append, List.cons_append]
  replace he0 := hw.cell he0 (by simp)
  replace he1 := hw.cell he1 (by simp)
  replace hd := hw.cell hd (by simp)
  have HX := hid hx
  clear hx
  have hWN : N ≤ W.heap.size := Nat.le_trans hN hw.size
  have hO0N : ∀ k ∈ O0, N ≤ k := fun k hk => by have := (hO0 k hk).2; omega
  have hzeW : ze < W.heap.size := Nat.lt_of_lt_of_le hze hw.size
  have hzdW : zd < W.heap.size := Nat.lt_of_lt_of_le hzd hw.size
  gi_wp2
  gi_loopg [4] (xs.length) (fun k v wr => ∃ (pre rest : List (Nat × Nat)) (z : Nat) (cur : Nat × Nat) (f' : Nat) (O : List Nat), rest.length = k ∧ v = .pointer (some ⟨z, 0, none⟩) ∧ xs = pre ++ rest ∧ orbF cs l e0 f' cur = some rest ∧
      wr.cell? ⟨z, 0, none⟩ = some (.int .i64 cur.1) ∧ wr.cell? ⟨z, 1, none⟩ = some (.int .i64 cur.2) ∧ (∀ i, wr.frozen? ⟨z, i, none⟩ = false) ∧ J pre O wr ∧ (∀ k ∈ O, k < wr.heap.size) ∧ z ∉ O ∧ W.heap.size ≤ z ∧ z < wr.heap.size ∧ Fr O0 W wr ∧ (∀ k ∈ O, k ∈ O0 ∨ W.heap.size ≤ k))
  case atStart =>
    refine ⟨[], xs, W.heap.size, e0, f, O0, rfl, rfl, rfl, HX.out, by go_simp, by go_simp, fun i => by go_simp, hJ _ _ [] _ _ h0 (Fr.alloc1 _ _) (by simp) (by simp), fun k hk => by have := (hO0 k hk).1; simp; omega, fun hk => by have := (hO0 _ hk).1; omega, Nat.le_refl _, by simp, (Fr.refl _ _).alloc _, fun k hk => .inl hk⟩
  case round =>
    obtain ⟨pre, rest, z, cur, f', O, hk, rfl, hxs, ho, z0, z1, zf, hJs, hOs, hzO, hWz, hzs, hfr, hOn⟩ := hrel
    cases f' with
    | zero => cases ho
    | succ f' =>
      simp only [orbF] at ho
      cases hst : stepF cs l cur with
      | none => rw [hst] at ho; cases ho
      | some nx =>
        rw [hst] at ho
        simp only at ho
        have hON : ∀ k ∈ O, N ≤ k := fun k hk => (hOn k hk).elim (hO0N k) (fun h => by omega)
        have hrest : ∃ rest', rest = cur :: rest' := by
          split at ho
          · exact ⟨[], (Option.some.inj ho).symm⟩
          · cases h1 : orbF cs l e0 f' nx with
            | none => rw [h1] at ho; cases ho
            | some r => rw [h1] at ho; exact ⟨r, (Option.some.inj ho).symm⟩
        obtain ⟨rest', rfl⟩ := hrest
        obtain ⟨fn, tmps, assign, body, hy, hR⟩ := hY pre cur wr O hJs ⟨rest', by rw [hxs]; simp⟩ hOs
        unfold stepF at hst
        cases hot : otherF cs l cur.1 cur.2 with
        | none => rw [hot] at hst; cases hst
        | some r =>
          rw [hot] at hst
          simp only at hst
          split at hst
          case isFalse => cases hst
          rename_i hb
          obtain ⟨hb1, hb2, hb3⟩ := hb
          obtain ⟨r1, r2⟩ := r
          obtain ⟨r1, rfl⟩ := Int.eq_ofNat_of_zero_le hb1
          obtain ⟨r2, rfl⟩ := Int.eq_ofNat_of_zero_le hb2
          simp only [Int.toNat_natCast, Option.some.injEq] at hst
          obtain ⟨c1, c2⟩ := cur
          obtain ⟨q, hq⟩ : ∃ q, (r2 + 3) % 4 = q := ⟨_, rfl⟩
          have hm : ((r2 : Int) + 3) % 4 = (q : Int) := by omega
          rw [hq] at hst
          have HST := hid hst
          have HOT := hid hot
          have HXS := hid hxs
          have HO := hid ho
          have HK := hid hk
          clear hst hot hxs ho hk hq
          simp only at z0 z1
          dsimp only [encPl] at hy
          gi_wp2
          refine hR.mono ?_
          rintro e W3 (⟨rfl, hf3, O3, hJ3, hn3, hn3'⟩ | ⟨rfl, hf3, O3, hJ3, hn3, hn3'⟩)
          all_goals have hfw : Fr O0 W W3 := hfr.trans hf3 hOn
          all_goals have hO3 : ∀ k ∈ O3, k ∈ O0 ∨ W.heap.size ≤ k := fun k hk => (hn3 k hk).elim (hOn k) (fun h => .inr (by have := hfr.size; omega))
          all_goals have hz3O : z ∉ O3 := fun hk => (hn3 z hk).elim hzO (fun h => by omega)
          · have hz3 : W3.cell? ⟨z, 0, none⟩ = some (.int .i64 c1) := hf3.cell z0 hzO
            have hz4 : W3.cell? ⟨z, 1, none⟩ = some (.int .i64 c2) := hf3.cell z1 hzO
            have zf3 : ∀ i, W3.frozen? ⟨z, i, none⟩ = false := fun i => (hf3.frozenE hzs hzO).trans (zf i)
            have hd3 : W3.cell? ⟨zd, 0, none⟩ = some (.pointer (some ⟨p, 0, none⟩)) := hf3.cell (hfr.cell hd (fun h => (hO0 _ h).2 (.inr (.inr rfl)))) (fun h => (hOn _ h).elim (fun h => (hO0 _ h).2 (.inr (.inr rfl))) (fun h => by simp at h; omega))
            have ze3 : W3.cell? ⟨ze, 0, none⟩ = some (.int .i64 e0.1) := hf3.cell (hfr.cell he0 (fun h => (hO0 _ h).2 (.inr (.inl rfl)))) (fun h => (hOn _ h).elim (fun h => (hO0 _ h).2 (.inr (.inl rfl))) (fun h => by simp at h; omega))
            have ze4 : W3.cell? ⟨ze, 1, none⟩ = some (.int .i64 e0.2) := hf3.cell (hfr.cell he1 (fun h => (hO0 _ h).2 (.inr (.inl rfl)))) (fun h => (hOn _ h).elim (fun h => (hO0 _ h).2 (.inr (.inl rfl))) (fun h => by simp at h; omega))
            have hD3 := hid ((((h.fr hw).frS hfr hO0N hpN (fun _ h => hA h) (fun _ h => hB h)).frS hf3 hON hpN (fun _ h => hA h) (fun _ h => hB h)))
            obtain rfl : (r1, q) = nx := HST.out
            have hz3s : z < W3.heap.size := Nat.lt_of_lt_of_le hzs hf3.size
            have hze3 : ze ≠ z := by omega
            by_cases hne : r1 = e0.1 ∧ q = e0.2
            · have hho := HO.out
              rw [if_pos (by rw [hne.1, hne.2])] at hho
              simp only [Option.some.injEq, List.cons.injEq, true_and] at hho
              have HHO := hid hho
              clear hho
              obtain ⟨e01, e02⟩ := e0
              obtain ⟨rfl, rfl⟩ := hne
              gi_wp2_with (gi_at_call 52; refine (callsIn_wide.2 (other_any hD3.out c1 c2 _ HOT.out)).mono ?_; rintro e w4 ⟨rfl, hf4⟩; have z40 := hf4.cell hz3 (by simp); have z41 := hf4.cell hz4 (by simp); have zf4 := fun i => (hf4.frozenE (p := ⟨z, i, none⟩) hz3s (by simp)).trans (zf3 i); have ze40 := hf4.cell ze3 (by simp); have ze41 := hf4.cell ze4 (by simp))
              refine bodyPost_ret (results_none rfl _ _ _) rfl ⟨⟨_, rfl⟩, ?_, O3, ⟨hO3, fun k hk => ?_⟩, .inl ?_⟩
              · exact (hfw.then hf4 |>.setCell (.inr hWz) _).setCell (.inr hWz) _
              · have := hn3' k hk; have := hf4.size; simp; omega
              · rw [HXS.out, ← HHO.out]
                refine hJ _ _ [z] _ _ hJ3 ((((Fr.refl [z] W3).then hf4).setCell (.inl (by simp)) _).setCell (.inl (by simp)) _) (fun k hk h => hz3O (by simp at h; rwa [h] at hk)) (fun k hk => by simp at hk; omega)
            · have hho := HO.out
              rw [if_neg (by intro h; exact hne ⟨congrArg Prod.fst h, congrArg Prod.snd h⟩)] at hho
              obtain ⟨r', hr1, hr2⟩ := Option.map_eq_some_iff.1 hho
              obtain ⟨-, rfl⟩ := List.cons.inj hr2
              have HR1 := hid hr1
              clear hr1 hr2 hho
              obtain ⟨e01, e02⟩ := e0
              have HNE := hid hne
              have hne2 : ¬ ((r1 : Int) = (e01 : Int)) ∨ (r1 = e01 ∧ ¬ ((q : Int) = (e02 : Int))) := by
                by_cases h1 : r1 = e01
                · exact .inr ⟨h1, fun h2 => hne ⟨h1, by simp only at h2 ⊢; omega⟩⟩
                · exact .inl (by omega)
              clear hne
              simp only at ze3 ze4
              have hz3l : z < W3.heap.size := hz3s
              rcases hne2 with hne2 | ⟨rfl, hne2⟩
              all_goals
                gi_wp2_with (gi_at_call 52; refine (callsIn_wide.2 (other_any hD3.out c1 c2 _ HOT.out)).mono ?_; rintro e w4 ⟨rfl, hf4⟩; have z40 := hf4.cell hz3 (by simp); have z41 := hf4.cell hz4 (by simp); have zf4 := fun i => (hf4.frozenE (p := ⟨z, i, none⟩) hz3s (by simp)).trans (zf3 i); have ze40 := hf4.cell ze3 (by simp); have ze41 := hf4.cell ze4 (by simp); have zs4 := Nat.lt_of_lt_of_le hz3l hf4.size)
                gi_roundg r'.length
                case rel =>
                  refine ⟨pre ++ [(c1, c2)], r', w4.heap.size, (_, q), f', O3, rfl, rfl, by rw [HXS.out]; simp, HR1.out, by go_simp, by go_simp, fun i => by go_simp, ?_, fun k hk => ?_, fun hk => ?_, ?_, ?_, ?_, hO3⟩
                  · refine hJ _ _ [z] _ _ hJ3 (((((Fr.refl [z] W3).then hf4).setCell (.inl (by simp)) _).setCell (.inl (by simp)) _).alloc _) (fun k hk h => hz3O (by simp at h; rwa [h] at hk)) (fun k hk => by simp at hk; omega)
                  · have := hn3' k hk; have := hf4.size; simp; omega
                  · have := hn3' _ hk; have := hf4.size; omega
                  · have := hfr.size; have := hf3.size; have := hf4.size; omega
                  · simp
                  · exact (((hfw.then hf4).setCell (.inr hWz) _).setCell (.inr hWz) _).alloc _
                case measure => have := HK.out; simp at this; omega
          · gi_wp2
            go_end0
            refine ⟨⟨_, rfl⟩, hfw, O3, ⟨hO3, hn3'⟩, .inr ⟨pre ++ [(c1, c2)], ?_, hJ3⟩⟩
            rw [HXS.out]; exact ⟨rest', by simp⟩
end Go.Proofs.YtjmgjkcjnjlpdaaGreatDoor

/-! ## D8 -/
namespace Go.Proofs.YtjmgjkcjnjlpdaaGreatDoor
open Go.RowKit

attribute [local go_sem] Oper.semAt_some

abbrev MP := List ((Int × Int) × Bool)

/-- all places of a region are marked -/
def markAll (m : MP) : List (Nat × Nat) → MP
  | [] => m
  | x :: r => markAll (aset m ((x.1 : Int), (x.2 : Int)) true) r

def regsP (cs : List Cr) (l : List AE) (i : Nat) : List Nat → MP → List (List (Nat × Nat)) → Option (MP × List (List (Nat × Nat)))
  | [], m, rs => some (m, rs)
  | p :: r, m, rs =>
    if (aget m ((i : Int), (p : Int))).getD false = true then regsP cs l i r m rs else
    match orbF cs l (i, p) (4 * cs.length + 1) (i, p) with
    | none => none
    | some reg => regsP cs l i r (markAll m reg) (rs ++ [reg])

def regsC (cs : List Cr) (l : List AE) : List Nat → MP → List (List (Nat × Nat)) → Option (List (List (Nat × Nat)))
  | [], _, rs => some rs
  | i :: r, m, rs => (regsP cs l i [0, 1, 2, 3] m rs).bind fun s => regsC cs l r s.1 s.2

def regionsF (cs : List Cr) (l : List AE) : Option (List (List (Nat × Nat))) := regsC cs l (List.range cs.length) [] []

def plCells (x : Nat × Nat) : List Value := [.int .i64 x.1, .int .i64 x.2]

/-- a slice of regions -/
def RegsAt (w : World) (base : Nat) (A : Option Addr) (rs : List (List (Nat × Nat))) : Prop :=
  (∀ a, A = some a → base ≤ a.block) ∧ ∃ vs : List Value, Rd w A vs ∧ vs.length = rs.length ∧ ∀ (i : Nat) (r : List (Nat × Nat)), rs[i]? = some r → ∃ (B : Option Addr) (cap : Nat), vs[i]? = some (Value.slice B r.length cap) ∧ Rd w B (r.flatMap plCells) ∧ ∀ a, B = some a → base ≤ a.block

theorem orbF_len {cs : List Cr} {l : List AE} {e0 : Nat × Nat} : ∀ {f : Nat} {e : Nat × Nat} {xs : List (Nat × Nat)}, orbF cs l e0 f e = some xs → xs.length ≤ f ∧ xs ≠ []
  | 0, _, _, h => by cases h
  | f + 1, e, xs, h => by
    simp only [orbF] at h
    split at h
    · cases h
    · split at h
      · cases h; exact ⟨by simp, by simp⟩
      · obtain ⟨r, h1, rfl⟩ := Option.map_eq_some_iff.1 h
        have := (orbF_len h1).1
        exact ⟨by simp; omega, by simp⟩

/-- what the body of a region's loop holds: M the map's block, mb its box, rb the row's box -/
def BI (M mb rb : Nat) (m : MP) (pre : List (Nat × Nat)) (O : List Nat) (W : World) : Prop :=
  ∃ Ar cr, O = M :: rb :: ablocks Ar ∧ MapAt W M ePl Value.bool (markAll m pre) ∧ W.cell? ⟨mb, 0, none⟩ = some (.map (some M)) ∧ W.cell? ⟨rb, 0, none⟩ = some (.slice Ar pre.length cr) ∧ W.frozen? ⟨rb, 0, none⟩ = false ∧
    OwnR W (rb + 1) 75 2 Ar pre.length cr (pre.flatMap plCells) ∧ rb < W.heap.size ∧ mb < W.heap.size

theorem BI.footed (B M mb rb : Nat) (m : MP) (hmb : mb < B) : Footed B (BI M mb rb m) := by
  rintro pre O S W W' ⟨Ar, cr, rfl, h1, h2, h3, h4, h5, h6, h7⟩ hf hS hSB
  have m1 := hS M (by simp)
  have m2 : mb ∉ S := fun h => by have := hSB mb h; omega
  have m3 := hS rb (by simp)
  exact ⟨Ar, cr, rfl, hf.map h1 m1, hf.cell h2 m2, hf.cell h3 m3, (hf.frozenE h6 m3).trans h4, h5.fr hf (fun a ha => hS _ (by simp [mem_ablocks]; exact .inr (.inr ⟨a, ha, rfl⟩))), Nat.lt_of_lt_of_le h6 hf.size, Nat.lt_of_lt_of_le h7 hf.size⟩

theorem markAll_snoc (m : MP) (pre : List (Nat × Nat)) (x : Nat × Nat) : markAll m (pre ++ [x]) = aset (markAll m pre) ((x.1 : Int), (x.2 : Int)) true := by
  induction pre generalizing m with
  | nil => rfl
  | cons y r ih => exact ih _

/-- what the walk of the regions holds between two regions -/
structure RS (w wr : World) (m : MP) (rs : List (List (Nat × Nat))) (A : Option Addr) (cap : Nat) (ds : List Deferred) (im : List Nat) (vs : List Value) : Prop where
  fr : Fr [] w wr
  map : MapAt wr w.heap.size ePl Value.bool m
  own : OwnR wr (w.heap.size + 2) 87 1 A rs.length cap vs
  imm : ∀ k ∈ im, k < wr.heap.size ∧ w.heap.size < k ∧ ∀ a, A = some a → a.block ≠ k
  box : wr.cell? ⟨w.heap.size + 1, 0, none⟩ = some (.map (some w.heap.size))
  box2 : w.heap.size + 1 ∈ im
  vl : vs.length = rs.length
  sub : ∀ (i : Nat) (r : List (Nat × Nat)), rs[i]? = some r → ∃ (g c : Nat), vs[i]? = some (Value.slice (some ⟨g, 0, none⟩) r.length c) ∧ g ∈ im ∧ Rd wr (some ⟨g, 0, none⟩) (r.flatMap plCells)
  marks : Marks w.heap.size wr ds
  mim : ∀ d ∈ ds, ∃ D, d = { target := .collected D, args := #[] } ∧ D ∈ im

theorem RS.step {w wr wr' : World} {m rs A cap ds im vs} {S : List Nat} (h : RS w wr m rs A cap ds im vs) (hf : Fr S wr wr') (hS : ∀ k ∈ S, k ∉ im ∧ w.heap.size ≤ k ∧ k ≠ w.heap.size ∧ ∀ a, A = some a → a.block ≠ k) : RS w wr' m rs A cap ds im vs where
  fr := h.fr.trans hf (fun k hk => .inr (hS k hk).2.1)
  map := hf.map h.map (fun hk => (hS _ hk).2.2.1 rfl)
  own := h.own.fr hf (fun a ha hk => (hS _ hk).2.2.2 a ha rfl)
  imm := fun k hk => ⟨Nat.lt_of_lt_of_le (h.imm k hk).1 hf.size, (h.imm k hk).2⟩
  box := hf.cell h.box (fun hk => (hS _ hk).1 h.box2)
  box2 := h.box2
  vl := h.vl
  sub := fun i r hr => by
    obtain ⟨g, c, h1, h2, h3⟩ := h.sub i r hr
    exact ⟨g, c, h1, h2, h3.fr hf (fun _ a ha hk => by cases ha; exact (hS _ hk).1 h2)⟩
  marks := h.marks.fr hf (fun d hd => by
    obtain ⟨D, h1, h2⟩ := h.mim d hd
    exact ⟨D, h1, fun hk => (hS _ hk).1 h2⟩)
  mim := h.mim

set_option maxHeartbeats 2000000 in
set_option maxRecDepth 100000 in
theorem regions_any {w : World} {p : Nat} {A cap cs L B capB l} (h : DiagAt w p A cap cs L B capB l) (rs : List (List (Nat × Nat))) (hr : regionsF cs l = some rs) :
    Calls Tryz.prog 25 #[.pointer (some ⟨p, 0, none⟩)] w fun e w' =>
      ∃ A' cap', e = .returned (.slice A' rs.length cap') ∧ Fr [] w w' ∧ RegsAt w' w.heap.size A' rs := by
  refine (callsIn_wide (n := 3)).1 ?_
  refine callsIn_of_wp_marks Tryz.func25 rfl trivial ?_
  simp only [Tryz.ntmps25, List.size_toArray, List.length_cons, List.length_nil, Nat.reduceAdd, Nat.reduceSub, Array.replicate_succ, Array.replicate_zero, List.push_toArray, List.append_toArray, List.nil_append, List.cons_append]
  have hmm := @run_makeMap Tryz.prog
  have d0 := h.c0
  have hn2 := h.n2
  have hp := h.lt
  have HR := hid hr
  clear hr
  gi_wp2
  refine wpIn_loop_ghost_k (fun k a wr => ∃ (v4 v17 u5 u6 u7 u8 u9 u18 u19 u20 u21 u22 u23 u24 u25 u26 u27 u28 u29 u30 u31 u32 u33 u34 u35 u36 u37 u38 u39 u40 u41 u42 u43 u44 u45 : Value) (ds : List Deferred), (∃ (i : Nat) (m : MP) (rs' : List (List (Nat × Nat))) (A' : Option Addr) (c' : Nat) (im : List Nat) (vs : List Value),
      i + k = cs.length ∧ v17 = .int .i64 i ∧ v4 = .slice A' rs'.length c' ∧ rs'.length ≤ 4 * i ∧ regsC cs l (List.range' i (cs.length - i)) m rs' = some rs ∧ RS w wr m rs' A' c' ds im vs) ∧
    a = { tmps := #[.pointer (some ⟨p, 0, none⟩), undef, .slice none 0 0, .pointer (some ⟨w.heap.size + 1, 0, none⟩), v4, u5, u6, u7, u8, u9, .map (some w.heap.size), .pointer (some ⟨p, 0, none⟩), .pointer (some ⟨p, 0, none⟩), .pointer (some ⟨p, 0, none⟩), .pointer (some ⟨p, 0, none⟩), .slice A cs.length cap, .int .i64 (cs.length : Int), v17, u18, u19, u20, u21, u22, u23, u24, u25, u26, u27, u28, u29, u30, u31, u32, u33, u34, u35, u36, u37, u38, u39, u40, u41, u42, u43, u44, u45], defers := ds }) cs.length ?_ ?_
  · (repeat apply Exists.intro); refine ⟨?_, rfl⟩
    refine ⟨0, [], [], none, 0, [w.heap.size + 1], [], by omega, rfl, rfl, by simp, ?_, ?_⟩
    · have := HR.out
      unfold regionsF at this
      rw [List.range_eq_range'] at this
      exact this
    · exact { fr := ((Fr.refl _ _).alloc _).alloc _, map := (MapAt.made w ePl Value.bool).alloc _, own := OwnR.nil _ _ _ _, imm := fun k hk => by { simp at hk; subst hk; simp }, box := by go_simp, box2 := by simp, vl := rfl, sub := fun i r hr => by { simp at hr }, marks := trivial, mim := fun d hd => by { simp at hd } }
  · intro gk _ wr hinv
    obtain ⟨v4, v17, u5, u6, u7, u8, u9, u18, u19, u20, u21, u22, u23, u24, u25, u26, u27, u28, u29, u30, u31, u32, u33, u34, u35, u36, u37, u38, u39, u40, u41, u42, u43, u44, u45, ds, hrel, ha⟩ := hinv
    subst ha
    try dsimp only
    intro _ _ _ _
    obtain ⟨i, m, rs', A', c', im, vs, hik, rfl, rfl, hrl, hP, hRS⟩ := hrel
    by_cases hlt : i < cs.length
    · have el : List.range' i (cs.length - i) = i :: List.range' (i + 1) (cs.length - (i + 1)) := by
        rw [show cs.length - i = (cs.length - (i + 1)) + 1 by omega]; rfl
      rw [el] at hP
      clear el
      simp only [regsC] at hP
      obtain ⟨⟨m1, rs1⟩, hP1, hP2⟩ := Option.bind_eq_some_iff.1 hP
      have HP1 := hid hP1
      have HP2 := hid hP2
      clear hP hP1 hP2
      gi_wp2
      refine wpIn_loop_ghost_k (fun k a wr => ∃ (v4 v20 u6 u7 u8 u9 u18 u19 u21 u22 u23 u24 u25 u26 u27 u28 u29 u30 u31 u32 u33 u34 u35 u36 u37 u38 u39 u40 u41 u42 u43 u44 u45 : Value) (ds : List Deferred), (∃ (j : Nat) (m2 : MP) (rs2 : List (List (Nat × Nat))) (A2 : Option Addr) (c2 : Nat) (im2 : List Nat) (vs2 : List Value),
          j + k = 4 ∧ v20 = .int .i64 j ∧ v4 = .slice A2 rs2.length c2 ∧ rs2.length ≤ 4 * i + j ∧ regsP cs l i (List.range' j (4 - j)) m2 rs2 = some (m1, rs1) ∧ RS w wr m2 rs2 A2 c2 ds im2 vs2) ∧
        a = { tmps := #[.pointer (some ⟨p, 0, none⟩), undef, .slice none 0 0, .pointer (some ⟨w.heap.size + 1, 0, none⟩), v4, .int .i64 (i : Int), u6, u7, u8, u9, .map (some w.heap.size), .pointer (some ⟨p, 0, none⟩), .pointer (some ⟨p, 0, none⟩), .pointer (some ⟨p, 0, none⟩), .pointer (some ⟨p, 0, none⟩), .slice A cs.length cap, .int .i64 (cs.length : Int), .int .i64 (i : Int), u18, u19, v20, u21, u22, u23, u24, u25, u26, u27, u28, u29, u30, u31, u32, u33, u34, u35, u36, u37, u38, u39, u40, u41, u42, u43, u44, u45], defers := ds }) 4 ?_ ?_
      · (repeat apply Exists.intro); refine ⟨?_, rfl⟩
        exact ⟨0, m, rs', A', c', im, vs, rfl, rfl, rfl, by omega, HP1.out, hRS⟩
      · clear hRS
        intro gk2 _ wr hinv
        obtain ⟨v4, v20, u6, u7, u8, u9, u18, u19, u21, u22, u23, u24, u25, u26, u27, u28, u29, u30, u31, u32, u33, u34, u35, u36, u37, u38, u39, u40, u41, u42, u43, u44, u45, ds, hrel, ha⟩ := hinv
        subst ha
        try dsimp only
        intro _ _ _ _
        obtain ⟨j, m2, rs2, A2, c2, im2, vs2, hjk, rfl, rfl, hrl2, hPj, hRS⟩ := hrel
        by_cases hj4 : j < 4
        · have el : List.range' j (4 - j) = j :: List.range' (j + 1) (4 - (j + 1)) := by
            rw [show 4 - j = (4 - (j + 1)) + 1 by omega]; rfl
          rw [el] at hPj
          clear el
          simp only [regsP] at hPj
          have hlk : ((aget m2 ((i : Int), (j : Int))).map Value.bool).getD (.bool false) = .bool ((aget m2 ((i : Int), (j : Int))).getD false) := by
            cases aget m2 ((i : Int), (j : Int)) <;> rfl
          have HLK := hid hlk
          clear hlk
          have hbox := hRS.box
          have hbs := (hRS.imm _ hRS.box2).1
          cases hmet : (aget m2 ((i : Int), (j : Int))).getD false with
          | true =>
            rw [if_pos hmet] at hPj
            have HPj := hid hPj
            have HMET := hid hmet
            clear hPj hmet
            gi_wp2_with (gi_at_lookup; refine wpListIn_lookup_at _ rfl _ _ _ mapPl rfl (hRS.map.alloc _) ((i : Int), (j : Int)) rfl rfl ?_; simp only [HLK.out, HMET.out, Bool.false_eq_true, if_false])
            gi_roundg (4 - (j + 1))
            case rel => exact ⟨j + 1, m2, rs2, A2, c2, im2, vs2, by omega, by go_num, rfl, by omega, HPj.out, hRS.step (Fr.alloc1 _ _) (by simp)⟩
            case measure => omega
          | false =>
            rw [if_neg (by rw [hmet]; simp)] at hPj
            cases hreg : orbF cs l (i, j) (4 * cs.length + 1) (i, j) with
            | none => rw [hreg] at hPj; cases hPj
            | some reg =>
              rw [hreg] at hPj
              have HPj := hid hPj
              have HMET := hid hmet
              have HREG := hid hreg
              clear hPj hmet hreg
              gi_wp2_with (first
                | (gi_at_lookup; refine wpListIn_lookup_at _ rfl _ _ _ mapPl rfl (hRS.map.alloc _) ((i : Int), (j : Int)) rfl rfl ?_; simp only [HLK.out, HMET.out, Bool.false_eq_true, if_false])
                | (gi_at_call 47; refine (callsIn_wide.2 (around_any p i j _)).mono ?_; rintro e w4 ⟨rfl, rfl⟩))
              obtain ⟨wl, hwl⟩ : ∃ wl, wl = ((((wr.alloc (.cells #[.int .i64 (i : Int), .int .i64 (j : Int)] 75)).alloc (.cells #[.slice none 0 0] 87)).alloc (.cells #[.pointer (some ⟨p, 0, none⟩)] 48)).alloc (.cells #[.int .i64 (i : Int), .int .i64 (j : Int)] 75)) := ⟨_, rfl⟩
              have hfl : Fr [] wr wl := by rw [hwl]; exact (((Fr.alloc1 _ _).alloc _).alloc _).alloc _
              have hsl : wl.heap.size = wr.heap.size + 4 := by rw [hwl]; simp
              have q0 : wl.cell? ⟨wr.heap.size + 1 + 1 + 1, 0, none⟩ = some (.int .i64 i) := by rw [hwl]; go_simp
              have q1 : wl.cell? ⟨wr.heap.size + 1 + 1 + 1, 1, none⟩ = some (.int .i64 j) := by rw [hwl]; go_simp
              have q2 : wl.cell? ⟨wr.heap.size + 1 + 1, 0, none⟩ = some (.pointer (some ⟨p, 0, none⟩)) := by rw [hwl]; go_simp
              have q3 : wl.cell? ⟨wr.heap.size + 1, 0, none⟩ = some (.slice none 0 0) := by rw [hwl]; go_simp
              have q4 : wl.frozen? ⟨wr.heap.size + 1, 0, none⟩ = false := by rw [hwl]; go_simp
              rw [← hwl]
              clear hwl
              have hlr := orbF_len HREG.out
              refine wpIn_rangeFunc_foot (encs := encPl) rfl (enters_of Tryz.func64 (by kernel_rfl) rfl) (fun _ => rfl)
                (around1_iter ((h.fr hRS.fr).fr hfl) w.heap.size (by have := hRS.fr.size; omega) h.lt h.rc.block h.ra.block (wr.heap.size + 1 + 1 + 1) (wr.heap.size + 1 + 1) (i, j) q0 q1 q2 (by omega) (by omega) _ reg HREG.out _)
                (by intro k hk; have := hRS.fr.size; omega) (BI w.heap.size (w.heap.size + 1) (wr.heap.size + 1) m2) (fun _ _ _ _ => False) (BI.footed _ _ _ _ _ (by omega)) (fun _ _ _ _ _ _ h _ _ _ => h)
                [w.heap.size, wr.heap.size + 1] ⟨none, 0, rfl, hfl.map hRS.map (by simp), hfl.cell hbox (by simp), q3, q4, OwnR.nil _ _ _ _, by omega, by omega⟩ ?_ ?_ ?_ ?_
              · intro k hk
                have := hRS.fr.size
                simp at hk
                omega
              · intro lp pre x W O hI hpre hlp hfW hOs hOn
                obtain ⟨x1, x2⟩ := x
                dsimp only [encPl]
                gi_wp2
                refine ⟨Fr.alloc1 _ _, ?_⟩
                intro W2 hf2 hl2 hs2 hI2
                have b0 : W2.cell? ⟨W.heap.size, 0, none⟩ = some (.int .i64 x1) := hf2.cell (by go_simp) (by simp; omega)
                have b1 : W2.cell? ⟨W.heap.size, 1, none⟩ = some (.int .i64 x2) := hf2.cell (by go_simp) (by simp; omega)
                have hwb := hf2.size
                clear hf2
                obtain ⟨Ar, cr, hOe, hm1, hmb, hrb, hrf, hrow, hrs, hms⟩ := hI2
                have HOE := hid hOe
                clear hOe
                have hpl := hpre.length_le
                simp at hpl
                have hws : W.heap.size < W2.heap.size := by simp at hs2; omega
                clear hs2
                have hWl := hfW.size
                have hne1 : wr.heap.size + 1 ≠ w.heap.size := by omega
                gi_wp2_with (first
                  | (gi_at_mapUpdate; refine wpListIn_update_at _ rfl _ _ _ mapPl rfl hm1 ((x1 : Int), (x2 : Int)) true rfl rfl rfl ?_; intro w5 hm5 hg5 hs5; have hf5 : Fr [w.heap.size] W2 w5 := (Fr.refl _ _).grown hg5 (by simp); have hrb5 := hf5.cell hrb (by simp; omega); have hrf5 := (hf5.frozenE (p := ⟨wr.heap.size + 1, 0, none⟩) hrs (by simp; omega)).trans hrf; have b05 := hf5.cell b0 (by simp; omega); have b15 := hf5.cell b1 (by simp; omega); have hrow5 := hrow.fr hf5 (fun a ha => by { have := hrow.addr a ha; simp; omega }); have hrs5 := Nat.lt_of_lt_of_le hrs hf5.size; clear hs5 hg5)
                  | (gi_at_builtin; refine wpListIn_append1 _ rfl _ _ 87 rfl (wr.heap.size + 1 + 1) 75 2 16 #[.int .i64 0, .int .i64 0] (by kernel_rfl) (by kernel_rfl) rfl (by omega) _ _ _ (pre.flatMap plCells) rfl (hrow5.alloc _) w5.heap.size [.int .i64 x1, .int .i64 x2] rfl rfl (RowAt.new' _ _ _ _ rfl) (by simp [Value.oneCell']) (by omega) (by omega) (by simp; omega) ?_; intro A7 c7 w7 hown7 hfr7 hlies7; have hrb7 := hfr7.cell (((Fr.alloc1 w5 (.cells #[.int .i64 x1, .int .i64 x2] 75))).cell hrb5 (by simp)) (by { rw [mem_ablocks]; rintro ⟨a, h1, h2⟩; have := hrow.addr a h1; simp at h2; omega }); have hrf7 := (hfr7.frozenE (p := ⟨wr.heap.size + 1, 0, none⟩) (by simp; omega) (by { rw [mem_ablocks]; rintro ⟨a, h1, h2⟩; have := hrow.addr a h1; simp at h2; omega })).trans (((Fr.alloc1 w5 (.cells #[.int .i64 x1, .int .i64 x2] 75))).frozenE (p := ⟨wr.heap.size + 1, 0, none⟩) (by simp; omega) (by simp) |>.trans hrf5)))
                have hob := HOE.out
                have hMa : w.heap.size ∉ ablocks Ar := by rw [mem_ablocks]; rintro ⟨a, h1, h2⟩; have := hrow.addr a h1; omega
                have hma : w.heap.size + 1 ∉ ablocks Ar := by rw [mem_ablocks]; rintro ⟨a, h1, h2⟩; have := hrow.addr a h1; omega
                have hfa : Fr [] w5 (w5.alloc (.cells #[.int .i64 x1, .int .i64 x2] 75)) := Fr.alloc1 _ _
                have hmb5 := hf5.cell hmb (by simp)
                have hMr : w.heap.size ≠ wr.heap.size + 1 := by omega
                refine ⟨?_, w.heap.size :: (wr.heap.size + 1) :: ablocks A7, ⟨A7, c7, rfl, ?_, ?_, ?_, ?_, ?_, ?_, ?_⟩, ?_, ?_⟩
                · rw [hob]
                  refine Fr.setCell ?_ (.inl (by simp)) _
                  refine Fr.trans (S' := ablocks Ar) ?_ hfr7 (fun k hk => .inl (by simp [hk]))
                  exact (hf5.weaken (by simp)).then hfa
                · rw [markAll_snoc]
                  exact (hfr7.map (hm5.alloc _) hMa).setCell _ _ (by simp; omega)
                · rw [World.cell?_setCell_other _ _ _ _ (by first | (simp; done) | (simp; omega))]
                  exact hfr7.cell (hfa.cell hmb5 (by simp)) hma
                · rw [World.cell?_setCell_same _ _ _ hrb7]; simp
                · rw [World.frozen?_setCell]; exact hrf7
                · have := hown7.setCell (p := ⟨wr.heap.size + 1, 0, none⟩) (.slice A7 (pre.length + 1) c7) (fun a ha => by have := hown7.addr a ha; simp; omega)
                  simpa [plCells] using this
                · have := hfr7.size; simp at this; simp; omega
                · have := hfr7.size; simp at this; simp; omega
                · intro k hk
                  rw [hob]
                  simp only [List.mem_cons, mem_ablocks] at hk ⊢
                  rcases hk with h1 | h1 | ⟨a', h1, h2⟩
                  · exact .inl (.inl h1)
                  · exact .inl (.inr (.inl h1))
                  · rcases hlies7 a' h1 with ⟨a, h3, h4⟩ | h3
                    · exact .inl (.inr (.inr ⟨a, h3, by omega⟩))
                    · have := hf5.size; simp at h3; exact .inr (by omega)
                · intro k hk
                  have h7 := hfr7.size
                  have h5 := hf5.size
                  simp only [World.size_alloc] at h7
                  simp only [List.mem_cons, mem_ablocks] at hk
                  simp only [World.size_setCell]
                  rcases hk with h1 | h1 | ⟨a', h1, h2⟩
                  · omega
                  · omega
                  · have := hown7.addr a' h1; omega
              · intro D O W hD1 hD2 hI hfW hOn hDO hDk
                dsimp only
                obtain ⟨Ar, cr, hOe, hm1, hmb, hrb, hrf, hrow, hrs, hms⟩ := hI
                have HOE := hid hOe
                clear hOe
                obtain ⟨g, rfl⟩ : ∃ g, Ar = some ⟨g, 0, none⟩ := by
                  rcases hrow.form with ⟨_, h1, _⟩ | h1
                  · exact absurd (List.eq_nil_of_length_eq_zero h1) hlr.2
                  · exact h1
                have hga := hrow.addr _ rfl
                simp only at hga
                have hfwW : Fr [w.heap.size, wr.heap.size + 1] wr W := (hfl.weaken (by simp)).trans hfW (fun k hk => .inl hk)
                have himS : ∀ k ∈ im2, k ∉ [w.heap.size, wr.heap.size + 1] := fun k hk hm => by
                  have := hRS.imm k hk
                  simp at hm; omega
                have hown : OwnR W (w.heap.size + 2) 87 1 A2 rs2.length c2 vs2 := hRS.own.fr hfwW (fun a ha hm => by have := hRS.own.addr a ha; simp at hm; omega)
                have hWl := hfwW.size
                gi_wp2_with (gi_at_builtin; refine wpListIn_append1 _ rfl _ _ 32 rfl (w.heap.size + 2) 87 1 24 #[.slice none 0 0] (by kernel_rfl) (by kernel_rfl) rfl (by omega) _ _ _ vs2 rfl (hown.alloc _) W.heap.size [.slice (some ⟨g, 0, none⟩) reg.length cr] rfl rfl (RowAt.new' _ _ _ _ rfl) (by simp [Value.oneCell']) (by omega) (by omega) (by simp; omega) ?_; intro A7 c7 w7 hown7 hfr7 hlies7)
                gi_roundg (4 - (j + 1))
                case measure => omega
                case rel =>
                  have hfa : Fr [] W (W.alloc (.cells #[.slice (some ⟨g, 0, none⟩) reg.length cr] 87)) := Fr.alloc1 _ _
                  have hfz := hfr7.size
                  simp only [World.size_alloc] at hfz
                  have hA2 : ∀ k ∈ ablocks A2, w.heap.size + 2 ≤ k ∧ k < wr.heap.size ∧ k ∉ im2 := by
                    intro k hk
                    obtain ⟨a, h1, rfl⟩ := mem_ablocks.1 hk
                    have := hRS.own.addr a h1
                    exact ⟨this.1, this.2, fun hm => (hRS.imm _ hm).2.2 a h1 rfl⟩
                  have hMA : w.heap.size ∉ ablocks A2 := fun hk => by have := hA2 _ hk; omega
                  have hmA : w.heap.size + 1 ∉ ablocks A2 := fun hk => by have := hA2 _ hk; omega
                  have hgA : g ∉ ablocks A2 := fun hk => by have := hA2 _ hk; omega
                  have hDA : D ∉ ablocks A2 := fun hk => by have := hA2 _ hk; omega
                  have hiA : ∀ k ∈ im2, k ∉ ablocks A2 := fun k hk hm => (hA2 _ hm).2.2 hk
                  have hfin : Fr [] w w7 := ((hRS.fr.trans hfwW (fun k hk => .inr (by simp at hk; omega))).then hfa).trans hfr7 (fun k hk => .inr (by have := hA2 k hk; omega))
                  refine ⟨j + 1, markAll m2 reg, rs2 ++ [reg], A7, c7, g :: D :: im2, vs2 ++ [.slice (some ⟨g, 0, none⟩) reg.length cr], by omega, by go_num, by simp, by simp; omega, HPj.out, ?_⟩
                  refine { fr := hfin, map := hfr7.map (hm1.alloc _) hMA, own := by simpa using hown7, imm := ?_, box := hfr7.cell (hfa.cell hmb (by simp)) hmA, box2 := by simp [hRS.box2], vl := by simp [hRS.vl], sub := ?_, marks := ?_, mim := ?_ }
                  · have hA7 : ∀ k, k ∉ ablocks A2 → k < W.heap.size → ∀ a, A7 = some a → a.block ≠ k := fun k hk hl a ha he => by
                      rcases hlies7 a ha with ⟨a2, h1, h2⟩ | h1
                      · exact hk (mem_ablocks.2 ⟨a2, h1, by omega⟩)
                      · simp at h1; omega
                    intro k hk
                    simp only [List.mem_cons] at hk
                    rcases hk with rfl | rfl | hk
                    · exact ⟨by omega, by omega, hA7 _ hgA (by omega)⟩
                    · exact ⟨by omega, by omega, hA7 _ hDA (by omega)⟩
                    · have := hRS.imm k hk
                      exact ⟨by omega, this.2.1, hA7 _ (hiA k hk) (by omega)⟩
                  · intro q r hq
                    rcases Nat.lt_or_ge q rs2.length with hlt2 | hge
                    · rw [List.getElem?_append_left hlt2] at hq
                      obtain ⟨g', c', h1, h2, h3⟩ := hRS.sub q r hq
                      refine ⟨g', c', by rw [List.getElem?_append_left (by rw [hRS.vl]; exact hlt2)]; exact h1, by simp [h2], ?_⟩
                      exact ((h3.fr hfwW (fun _ a ha => by cases ha; exact himS _ h2)).fr0 hfa).fr hfr7 (fun _ a ha => by cases ha; exact hiA _ h2)
                    · rw [List.getElem?_append_right hge] at hq
                      have hq0 : q - rs2.length = 0 := by have := (List.getElem?_eq_some_iff.1 hq).1; simpa using this
                      rw [hq0] at hq
                      simp at hq
                      subst hq
                      refine ⟨g, cr, by rw [List.getElem?_append_right (by rw [hRS.vl]; exact hge), hRS.vl, hq0]; rfl, by simp, ?_⟩
                      exact (hrow.rd.fr0 hfa).fr hfr7 (fun _ a ha => by cases ha; exact hgA)
                  · refine ⟨⟨D, rfl, by omega, hfr7.heap (hfa.heap hDk (by simp)) hDA, ?_⟩, ?_⟩
                    · intro d' hd' he
                      obtain ⟨D', h1, h2⟩ := hRS.mim d' hd'
                      have := hRS.imm D' h2
                      rw [h1] at he
                      simp at he
                      omega
                    · refine ((hRS.marks.fr hfwW ?_).fr hfa (by intro d hd; obtain ⟨D', h1, _⟩ := hRS.mim d hd; exact ⟨D', h1, by simp⟩)).fr hfr7 ?_
                      · intro d hd
                        obtain ⟨D', h1, h2⟩ := hRS.mim d hd
                        exact ⟨D', h1, himS _ h2⟩
                      · intro d hd
                        obtain ⟨D', h1, h2⟩ := hRS.mim d hd
                        exact ⟨D', h1, hiA _ h2⟩
                  · intro d hd
                    rcases List.mem_cons.1 hd with rfl | hd
                    · exact ⟨D, rfl, by simp⟩
                    · obtain ⟨D', h1, h2⟩ := hRS.mim d hd
                      exact ⟨D', h1, by simp [h2]⟩
              · intro D c pre O W _ _ _ hF
                exact hF.elim
        · obtain rfl : j = 4 := by omega
          simp only [Nat.sub_self, List.range'_zero, regsP, Option.some.injEq, Prod.mk.injEq] at hPj
          obtain ⟨rfl, rfl⟩ := hPj
          gi_wp2
          gi_roundg (cs.length - (i + 1))
          case rel => exact ⟨i + 1, m2, rs2, A2, c2, im2, vs2, by omega, by go_num, rfl, by omega, HP2.out, hRS⟩
          case measure => omega
    · obtain rfl : i = cs.length := by omega
      simp only [Nat.sub_self, List.range'_zero, regsC, Option.some.injEq] at hP
      subst hP
      gi_wp2
      refine leaves_marks hRS.marks (fun W' ht => ?_)
      refine ⟨_, results_tmp rfl _ _ _, _, _, rfl, ht.fr hRS.fr (Nat.le_refl _), fun a ha => by have := hRS.own.addr a ha; omega, vs, ht.rd hRS.own.rd, hRS.vl, fun j r hj => ?_⟩
      obtain ⟨g, c, h1, h2, h3⟩ := hRS.sub j r hj
      exact ⟨_, c, h1, ht.rd h3, fun a ha => by cases ha; have := hRS.imm _ h2; simp only; omega⟩
end Go.Proofs.YtjmgjkcjnjlpdaaGreatDoor

/-! ## D9 -/
namespace Go.Proofs.YtjmgjkcjnjlpdaaGreatDoor
open Go.RowKit

def addL : List Int → List Int → Option (List Int)
  | [], lf => some lf
  | k :: r, lf => if 0 ≤ k then
      match lf[k.toNat]? with
      | none => none
      | some v => addL r (lf.set k.toNat (wrap64 (v + 1)))
    else none

def subL (of : List Int) : List (List (Nat × Nat)) → List Int → Option (List Int)
  | [], lf => some lf
  | r :: rs, lf =>
    match r[0]? with
    | none => none
    | some x =>
      match of[x.1]? with
      | none => none
      | some k => if 0 ≤ k then
          match lf[k.toNat]? with
          | none => none
          | some v => subL of rs (lf.set k.toNat (wrap64 (v - 1)))
        else none

theorem pcs_le {cs : List Cr} {l : List AE} : ∀ {is : List Nat} {of0 : List Int} {m : Nat} {of : List Int} {n : Nat}, pcs cs l is of0 m = some (of, n) → m ≤ n ∧ n ≤ m + is.length
  | [], of0, m, of, n, h => by cases h; simp
  | i :: r, of0, m, of, n, h => by
    simp only [pcs] at h
    split at h
    · cases h
    · split at h
      · have := pcs_le h; simp; omega
      · obtain ⟨of', _, h2⟩ := Option.bind_eq_some_iff.1 h
        have := pcs_le h2; simp; omega

theorem regsP_le {cs : List Cr} {l : List AE} {i : Nat} : ∀ {ps : List Nat} {m : MP} {rs : List (List (Nat × Nat))} {m' : MP} {rs' : List (List (Nat × Nat))}, regsP cs l i ps m rs = some (m', rs') → rs'.length ≤ rs.length + ps.length
  | [], m, rs, m', rs', h => by cases h; simp
  | p :: r, m, rs, m', rs', h => by
    simp only [regsP] at h
    split at h
    · have := regsP_le h; simp; omega
    · split at h
      · cases h
      · have := regsP_le h; simp at this; simp; omega

theorem regsC_le {cs : List Cr} {l : List AE} : ∀ {is : List Nat} {m : MP} {rs rs' : List (List (Nat × Nat))}, regsC cs l is m rs = some rs' → rs'.length ≤ rs.length + 4 * is.length
  | [], m, rs, rs', h => by cases h; simp
  | i :: r, m, rs, rs', h => by
    simp only [regsC] at h
    obtain ⟨⟨m1, rs1⟩, h1, h2⟩ := Option.bind_eq_some_iff.1 h
    have a := regsP_le h1
    have b := regsC_le h2
    simp at a b ⊢; omega

/-- the error's number (0: none), and the places of the arcs -/
def enterF (cs : List Cr) (L : Int) : Option (Int × List AE) :=
  match endsF cs L with
  | none => some (220, [])
  | some l =>
    (piecesF cs l).bind fun pn => (addL pn.1 (List.replicate pn.2 2)).bind fun l1 => (regionsF cs l).bind fun rs => (subL pn.1 rs l1).bind fun l2 =>
      some (if l2.all (· == 0) = true then (0, l) else (221, []))

def EnterPost (w : World) (A : Option Addr) (cap : Nat) (cs : List Cr) (L : Int) (R : Int × List AE) (e : Ending) (w' : World) : Prop :=
  Fr [] w w' ∧ ((R.1 ≠ 0 ∧ e = .returned (.tuple #[.pointer none, .int .i64 R.1])) ∨
    (R.1 = 0 ∧ ∃ q B, e = .returned (.tuple #[.pointer (some ⟨q, 0, none⟩), .int .i64 0]) ∧ DiagAt w' q A cap cs L B R.2.length R.2))

theorem endsF_len {cs : List Cr} {L : Int} {l : List AE} (h : endsF cs L = some l) : cs.length ≤ 200 ∧ l.length = 2 * cs.length ∧ 0 ≤ L ∧ L ≤ 200 := by
  unfold endsF at h
  split at h
  · cases h
  · rename_i hc
    simp only [Bool.or_eq_true, decide_eq_true_eq] at hc
    obtain ⟨m, _, rfl⟩ := Option.map_eq_some_iff.1 h
    refine ⟨by omega, by simp, by omega, by omega⟩

set_option maxHeartbeats 2000000 in
set_option maxRecDepth 100000 in
theorem enter_any (cs : List Cr) (A : Option Addr) (cap : Nat) (L : Int) (w : World) (hr : Rd w A (crCells cs)) (R : Int × List AE) (hR : enterF cs L = some R) :
    Calls Tryz.prog 21 #[.agg #[.slice A cs.length cap, .int .i64 L]] w (EnterPost w A cap cs L R) := by
  unfold enterF at hR
  cases he : endsF cs L with
  | none =>
    rw [he] at hR
    obtain rfl := Option.some.inj hR
    clear hR
    have HE := hid he
    clear he
    have hr1 := hid (hr.fr0 (Fr.alloc1 w (.cells #[.slice A cs.length cap, .int .i64 L] 24)))
    go_enter Tryz.func21, Tryz.ntmps21
    go_wp2_with (go_at_call 35; refine (ends_any cs A cap L _ hr1.out).mono ?_; unfold EndsPost; rw [HE.out]; rintro e w1 ⟨hf1, rfl⟩)
    go_ret2
    exact ⟨(Fr.alloc1 _ _).trans hf1 (by simp), .inl ⟨by simp, rfl⟩⟩
  | some l =>
    rw [he] at hR
    simp only at hR
    obtain ⟨⟨of, n⟩, hpc, hR⟩ := Option.bind_eq_some_iff.1 hR
    obtain ⟨l1, hl1, hR⟩ := Option.bind_eq_some_iff.1 hR
    obtain ⟨rs, hrs, hR⟩ := Option.bind_eq_some_iff.1 hR
    obtain ⟨l2, hl2, hR⟩ := Option.bind_eq_some_iff.1 hR
    have hR' := Option.some.inj hR
    clear hR
    have hlen := endsF_len he
    have HE := hid he
    have HPC := hid hpc
    have HL1 := hid hl1
    have HRS := hid hrs
    have HL2 := hid hl2
    have HR := hid hR'
    clear he hpc hl1 hrs hl2 hR'
    have hr1 := hid (hr.fr0 (Fr.alloc1 w (.cells #[.slice A cs.length cap, .int .i64 L] 24)))
    obtain ⟨hn2, hll, hL0, hL1⟩ := hlen
    have HLL := hid hll
    clear hll
    go_enter Tryz.func21, Tryz.ntmps21
    go_wp2_with (first
      | (go_at_call 35; refine (ends_any cs A cap L _ hr1.out).mono ?_; unfold EndsPost; rw [HE.out]; rintro e w1 ⟨hf1, B, rfl, hrB⟩; have d1 := (((Fr.alloc1 w (.cells #[.slice A cs.length cap, .int .i64 L] 24)).then hf1)); have c0 := hf1.cell (p := ⟨w.heap.size, 0, none⟩) (v := .slice A cs.length cap) (by go_simp) (by simp); have c1 := hf1.cell (p := ⟨w.heap.size, 1, none⟩) (v := .int .i64 L) (by go_simp) (by simp)))
    have hD : DiagAt (w1.alloc (.cells #[.slice A cs.length cap, .int .i64 L, .slice B l.length l.length] 61)) w1.heap.size A cap cs L B l.length l :=
      { c0 := by go_simp, c1 := by go_simp, c2 := by go_simp, rc := hr.fr0 (d1.alloc _), ra := hrB.fr0 (Fr.alloc1 _ _), n2 := hn2, lt := by simp }
    have hfD : Fr [] w (w1.alloc (.cells #[.slice A cs.length cap, .int .i64 L, .slice B l.length l.length] 61)) := d1.alloc _
    refine (pieces_any hD _ _ HPC.out).mono ?_
    rintro e w2 ⟨rfl, hf2, hrow, hofl⟩
    obtain ⟨go, hgo⟩ : ∃ g, g = (w1.alloc (.cells #[.slice A cs.length cap, .int .i64 L, .slice B l.length l.length] 61)).heap.size := ⟨_, rfl⟩
    rw [← hgo] at hrow ⊢
    have hgo0 : w.heap.size ≤ go := by rw [hgo]; exact hfD.size
    obtain ⟨q, hq⟩ : ∃ q, q = w1.heap.size := ⟨_, rfl⟩
    have hD2 : DiagAt w2 q A cap cs L B l.length l := by rw [hq]; exact hD.fr hf2
    have hqg : q < go := by rw [hq, hgo]; simp
    have hfw2 : Fr [] w w2 := hfD.trans hf2 (by simp)
    have hBq : aeCells l ≠ [] → ∀ a, B = some a → a.block < q := by rw [hq]; exact hrB.block
    rw [← hq]
    clear hgo hq hD hf2 hfD c0 c1 d1 hf1 hrB
    have hnle : n ≤ cs.length := by have := HPC.out; unfold piecesF at this; have := pcs_le this; simp at this; omega
    have HOL := hid hofl
    clear hofl
    have hmk := fun W => run_make_ints (P := Tryz.prog) 25 3 (by kernel_rfl) (by kernel_rfl) (n : Int) n (by omega) (by omega) W
    go_wp2
    -- left: 2 everywhere
    go_loopw [37] (fun i wr => ∃ (a : Nat), a ≤ n ∧ i = .int .i64 a ∧ Fr [] w2 wr ∧ RowAt wr w2.heap.size 3 (ints ((List.range a).map (fun _ => (2 : Int)) ++ List.replicate (n - a) 0))) (fun i _ => n - (intOf i).toNat)
    case atStart =>
      refine ⟨0, by omega, rfl, Fr.alloc1 _ _, ?_⟩
      have := RowAt.new w2 3 (ints (List.replicate n (0 : Int)))
      simpa using this
    case round =>
      obtain ⟨a, ha, rfl, hf, hrw⟩ := hrel
      by_cases hlt : a < n
      · have hz : ((List.range a).map (fun _ => (2 : Int)) ++ List.replicate (n - a) 0)[a]? = some 0 := by
          rw [List.getElem?_append_right (by simp), List.length_map, List.length_range, Nat.sub_self, List.getElem?_replicate, if_pos (by omega)]
        have s0 : wr.cell? ⟨w2.heap.size, a, none⟩ = some (.int .i64 0) := by rw [hrw.cell]; exact ints_get hz
        have fz := fun i => hrw.frozen i
        clear hz
        go_wp2
        go_roundw
        case rel =>
          refine ⟨a + 1, by omega, by go_num, hf.setCell (.inr (by simp)) _, ?_⟩
          have := hrw.set a (.int .i64 2)
          rw [ints_set, set_fill (fun _ => (2 : Int)) _ _ _ hlt] at this
          exact this
        case measure => simp [intOf]; omega
      · obtain rfl : a = n := by omega
        have e1 : (List.range a).map (fun _ => (2 : Int)) ++ List.replicate (a - a) 0 = List.replicate a 2 := by
          simp [List.map_const']
        rw [e1] at hrw
        clear e1
        obtain ⟨gl, hgl⟩ : ∃ g, g = w2.heap.size := ⟨_, rfl⟩
        have hgl0 : go < gl := by rw [hgl]; exact hrow.lt
        rw [← hgl] at hrw ⊢
        have hfw3 : Fr [] w wr := hfw2.trans hf (by simp)
        have hD3 := hD2.fr hf
        have hrow3 := hrow.fr hf (by simp)
        clear hgl hD2 hf hrow hfw2 hmk
        go_wp2
        obtain ⟨wo, hwo⟩ : ∃ wo : World, wo = wr := ⟨_, rfl⟩
        rw [← hwo] at hrw hfw3 hD3 hrow3 ⊢
        clear hwo
        have hdl : ∀ (k : Nat) (hk : k < of.length), of.drop k = of[k] :: of.drop (k + 1) := fun k hk => List.drop_eq_getElem_cons hk
        go_loopw [46] (fun i wr => ∃ (k : Nat) (lf : List Int), k ≤ cs.length ∧ i = .int .i64 k ∧ addL (of.drop k) lf = some l1 ∧ lf.length = a ∧ Fr [gl] wo wr ∧ RowAt wr gl 3 (ints lf)) (fun i _ => cs.length - (intOf i).toNat)
        case atStart => exact ⟨0, List.replicate a 2, by omega, rfl, HL1.out, by simp, Fr.refl _ _, hrw⟩
        case round =>
          obtain ⟨k, lf, hk, rfl, hA, hlf, hf, hrl⟩ := hrel
          have HLF := hid hlf
          clear hlf
          by_cases hlt2 : k < cs.length
          · have hkl : k < of.length := by rw [HOL.out]; exact hlt2
            rw [hdl k hkl] at hA
            obtain ⟨kv, hkv⟩ : ∃ kv, of[k] = kv := ⟨_, rfl⟩
            rw [hkv] at hA
            simp only [addL] at hA
            split at hA
            case isFalse => cases hA
            rename_i hk0
            obtain ⟨kv, rfl⟩ := Int.eq_ofNat_of_zero_le hk0
            simp only [Int.toNat_natCast] at hA
            cases hv : lf[kv]? with
            | none => rw [hv] at hA; cases hA
            | some v =>
              rw [hv] at hA
              simp only at hA
              have c0 : wr.cell? ⟨go, k, none⟩ = some (.int .i64 kv) := by
                rw [(hrow3.fr hf (by simp; omega)).cell]; exact ints_get (by rw [List.getElem?_eq_getElem hkl, hkv])
              have c1 : wr.cell? ⟨gl, kv, none⟩ = some (.int .i64 v) := by rw [hrl.cell]; exact ints_get hv
              have fz := fun i => hrl.frozen i
              have hkvl : kv < a := by rw [← HLF.out]; exact (List.getElem?_eq_some_iff.1 hv).1
              have HA := hid hA
              clear hA hkv hv
              go_wp2
              go_roundw
              case rel => 
                refine ⟨k + 1, lf.set kv (wrap64 (v + 1)), by omega, by go_num, HA.out, by simp [HLF.out], hf.setCell (.inl (by simp)) _, ?_⟩
                have := hrl.set kv (.int .i64 (wrap64 (v + 1)))
                rw [ints_set] at this; exact this
              case measure => simp [intOf]; omega
          · obtain rfl : k = cs.length := by omega
            rw [← HOL.out, List.drop_length] at hA
            simp only [addL, Option.some.injEq] at hA
            subst hA
            go_wp2_with fail
            have hD4 : DiagAt wr q A cap cs L B l.length l := hD3.frS hf (N := gl) (by simp) (by omega) (fun _ hx a ha => by have := hr.block hx a ha; omega) (fun _ hx a ha => by have := hBq hx a ha; omega)
            have hrow4 := hrow3.fr hf (by simp; omega)
            have hfw4 : Fr [] w wr := hfw3.trans hf (by simp; omega)
            refine (regions_any hD4 rs HRS.out).mono ?_
            rintro e w5 ⟨A5, c5, rfl, hf5, hA5, vs, hvs, hvl, hsub⟩
            have hrow5 := hrow4.fr hf5 (by simp)
            have hrl5 := hrl.fr hf5 (by simp)
            have hD5 := hD4.fr hf5
            have hfw5 : Fr [] w w5 := hfw4.trans hf5 (by simp)
            have hgl5 : gl < wr.heap.size := hrl.lt
            go_wp2
            have hrsl : rs.length ≤ 800 := by have := HRS.out; unfold regionsF at this; have := regsC_le this; simp at this; omega
            have hdr : ∀ (k : Nat) (hk : k < rs.length), rs.drop k = rs[k] :: rs.drop (k + 1) := fun k hk => List.drop_eq_getElem_cons hk
            obtain ⟨wb, hwb⟩ : ∃ wb, wb = wr.heap.size := ⟨_, rfl⟩
            rw [← hwb] at hA5 hsub hgl5
            clear hwb hf hrl hrow4 hD4 hfw4 hf5 hrow3 hD3 hfw3 hrw
            clear wr
            go_loopw [60] (fun i wr => ∃ (k : Nat) (lf2 : List Int), k ≤ rs.length ∧ i = .int .i64 k ∧ subL of (rs.drop k) lf2 = some l2 ∧ lf2.length = a ∧ Fr [gl] w5 wr ∧ RowAt wr gl 3 (ints lf2)) (fun i _ => rs.length - (intOf i).toNat)
            case atStart => exact ⟨0, lf, by omega, rfl, HL2.out, HLF.out, Fr.refl _ _, hrl5⟩
            case round =>
              obtain ⟨k, lf2, hk2, rfl, hS, hlf2, hf2, hrl2⟩ := hrel
              have HLF2 := hid hlf2
              clear hlf2
              by_cases hlt3 : k < rs.length
              · rw [hdr k hlt3] at hS
                obtain ⟨r, hr⟩ : ∃ r, rs[k] = r := ⟨_, rfl⟩
                rw [hr] at hS
                have hrk : rs[k]? = some r := by rw [List.getElem?_eq_getElem hlt3, hr]
                obtain ⟨Bk, ck, g1, g2, g3⟩ := hsub k r hrk
                obtain ⟨b, off, rfl, hb, hcv⟩ := hvs (by intro h0; rw [h0] at g1; simp at g1)
                have hbl : wb ≤ b := hA5 _ rfl
                have cv := hf2.cell (hcv k _ g1) (by simp; omega)
                simp only [subL] at hS
                cases hx0 : r[0]? with
                | none => rw [hx0] at hS; cases hS
                | some x =>
                  rw [hx0] at hS
                  simp only at hS
                  cases hof : of[x.1]? with
                  | none => rw [hof] at hS; cases hS
                  | some kv =>
                    rw [hof] at hS
                    simp only at hS
                    split at hS
                    case isFalse => cases hS
                    rename_i hk0
                    obtain ⟨kv, rfl⟩ := Int.eq_ofNat_of_zero_le hk0
                    simp only [Int.toNat_natCast] at hS
                    cases hv : lf2[kv]? with
                    | none => rw [hv] at hS; cases hS
                    | some v =>
                      rw [hv] at hS
                      simp only at hS
                      obtain ⟨b2, off2, rfl, hb2, hcx⟩ := Rd.elem (f := plCells) (k := 2) (fun _ => rfl) (by omega) g2 hx0
                      have hb2l : wb ≤ b2 := g3 _ rfl
                      have cx := hf2.cell (hcx 0 _ rfl) (by simp; omega)
                      simp only [Nat.zero_mul, Nat.add_zero] at cx
                      have c0 : wr.cell? ⟨go, x.1, none⟩ = some (.int .i64 kv) := by
                        rw [(hrow5.fr hf2 (by simp; omega)).cell]; exact ints_get hof
                      have c1 : wr.cell? ⟨gl, kv, none⟩ = some (.int .i64 v) := by rw [hrl2.cell]; exact ints_get hv
                      have fz := fun i => hrl2.frozen i
                      have hkvl : kv < a := by rw [← HLF2.out]; exact (List.getElem?_eq_some_iff.1 hv).1
                      have hxl : x.1 < cs.length := by rw [← HOL.out]; exact (List.getElem?_eq_some_iff.1 hof).1
                      have hr0 : 0 < r.length := (List.getElem?_eq_some_iff.1 hx0).1
                      have HS := hid hS
                      have HRK := hid hrk
                      have HVL := hid hvl
                      clear hS hof hv hrk hr hx0 g1 hcv hcx hvl
                      go_wp2
                      go_roundw
                      case rel =>
                        refine ⟨k + 1, lf2.set kv (wrap64 (v - 1)), by omega, by go_num, HS.out, by simp [HLF2.out], hf2.setCell (.inl (by simp)) _, ?_⟩
                        have := hrl2.set kv (.int .i64 (wrap64 (v - 1)))
                        rw [ints_set] at this; exact this
                      case measure => simp [intOf]; omega
              · obtain rfl : k = rs.length := by omega
                rw [List.drop_length] at hS
                simp only [subL, Option.some.injEq] at hS
                subst hS
                have hfw6 : Fr [] w wr := hfw5.trans hf2 (by simp; omega)
                have hD6 : DiagAt wr q A cap cs L B l.length l := hD5.frS hf2 (N := gl) (by simp) (by omega) (fun _ hx a ha => by have := hr.block hx a ha; omega) (fun _ hx a ha => by have := hBq hx a ha; omega)
                go_wp2
                go_loop [79] (fun i => ∃ (k : Nat), k ≤ a ∧ i = .int .i64 k ∧ lf2.all (· == 0) = (lf2.drop k).all (· == 0)) (fun i => a - (intOf i).toNat)
                case atStart => exact ⟨0, by omega, rfl, rfl⟩
                case round =>
                  obtain ⟨k, hk4, rfl, hall⟩ := hrel
                  by_cases hlt4 : k < a
                  · obtain ⟨v, hv⟩ : ∃ v, lf2[k]? = some v := ⟨_, List.getElem?_eq_getElem (by rw [HLF2.out]; exact hlt4)⟩
                    have c1 : wr.cell? ⟨gl, k, none⟩ = some (.int .i64 v) := by rw [hrl2.cell]; exact ints_get hv
                    have hd4 : lf2.drop k = v :: lf2.drop (k + 1) := by
                      rw [List.drop_eq_getElem_cons (by rw [HLF2.out]; exact hlt4)]
                      rw [List.getElem?_eq_getElem (by rw [HLF2.out]; exact hlt4)] at hv
                      rw [Option.some.inj hv]
                    rw [hd4] at hall
                    simp only [List.all_cons] at hall
                    cases hv0 : (v != 0) with
                    | true =>
                      have hz : lf2.all (· == 0) = false := by
                        rw [hall]; simp at hv0; simp [hv0]
                      have HZ := hid hz
                      clear hv hd4 hall hz
                      go_wp2
                      go_ret2
                      have := HR.out
                      rw [HZ.out] at this
                      simp only [Bool.false_eq_true, if_false] at this
                      subst this
                      exact ⟨hfw6, .inl ⟨by simp, rfl⟩⟩
                    | false =>
                      have hz : lf2.all (· == 0) = (lf2.drop (k + 1)).all (· == 0) := by
                        rw [hall]; simp at hv0; simp [hv0]
                      have HZ := hid hz
                      clear hv hd4 hall hz
                      go_wp2
                      go_round
                      case rel => exact ⟨k + 1, by omega, by go_num, HZ.out⟩
                      case measure => simp [intOf]; omega
                  · obtain rfl : k = a := by omega
                    rw [← HLF2.out, List.drop_length] at hall
                    have HZ := hid hall
                    clear hall
                    go_wp2
                    go_ret2
                    have := HR.out
                    rw [if_pos (by rw [HZ.out]; rfl)] at this
                    subst this
                    exact ⟨hfw6, .inr ⟨rfl, q, B, rfl, hD6⟩⟩
end Go.Proofs.YtjmgjkcjnjlpdaaGreatDoor
