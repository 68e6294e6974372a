/-
  sphenoidlaw22.DiagStays: for every two diagrams, every two numbers and every two lists of numbers, of whatever size the form lets in, the law returns true, and every argument reads behind the call as it read before (the row's statement, and the tied card).
  CONDITIONS: those of the given row: its three listed variables of Go's library hold what the library's text lays there (the card ties them to the text); nothing else.
-/
import Derived.Test.YtjmgjkcjnjlpdaaGreatDoorMn
import Derived.Test.YtjmgjkcjnjlpdaaGreatDoorRows
import Derived.Test.YtjmgjkcjnjlpdaaGreatDoorCards
import Derived.Test.YtjmgjkcjnjlpdaaGreatDoorTie
import Derived.ProofKit
import Derived.OpenShut
import Derived.ChangeSame
import Derived.SizedLaws
import Derived.Carry
import Derived.Lay
import Derived.LaidSub
import Derived.Deep.Slices
import Derived.Deep.DeepHandedRow
import Derived.Lib.LaidTab
import Derived.SevenTiedAt
set_option linter.unusedVariables false
set_option linter.unusedSimpArgs false
set_option linter.unusedSectionVars false
/-! ## D42 -/
namespace Go.Proofs.YtjmgjkcjnjlpdaaGreatDoor
open Go.ChangeShapes Go.WideShapes Go.ChangeAt Go.RowKit Go.WideElems Go.Deep

theorem own : ownKnob Tryz.prog.godebug = none := by kernel_rfl
theorem laidOut : laidOutB Tryz.prog = true := by kernel_rfl

section
variable {H : Type} {enc : TypeId × Value → H} {w : World} {base : Nat} {spare : Nat → Bool} {held : Bool}

set_option maxRecDepth 100000 in
/-- a crossing in memory is five integers -/
theorem open_cr {fuel : Nat} {cs : List Value} {x : DataW H × List MemPlace} (h : DataW.trod enc Tryz.prog w base spare held fuel 54 cs = some x) : ∃ c : Cr, cs = c.cells := by
  obtain ⟨y0, y1, n, rfl, hl, h0, h1⟩ := trod_struct2 Tryz.underlying54 h
  have c54 : Tryz.prog.cellsOf 54 = 5 := by kernel_rfl
  have c52 : Tryz.prog.cellsOf 52 = 4 := by kernel_rfl
  have c3 : Tryz.prog.cellsOf 3 = 1 := by kernel_rfl
  rw [c54] at hl
  simp only [c52, c3] at h0 h1
  obtain ⟨xs, m, rfl, rfl, hl4, hx4, ha⟩ := DataW.trod_array Tryz.underlying52 h0
  rw [c3] at ha
  match cs, hl with
  | [v0, v1, v2, v3, v4], _ =>
    obtain ⟨s, hs, -, -⟩ := DataW.trod_int Tryz.underlying3 h1
    have e (i : Nat) (hi : i < 4) : ∃ k : Int, (([v0, v1, v2, v3].drop i).take 1) = [.int .i64 k] := by
      have h2 := ha i hi
      rw [List.getElem?_eq_getElem (by omega)] at h2
      obtain ⟨k, hk, -, -⟩ := DataW.trod_int Tryz.underlying3 h2
      exact ⟨k, by simpa using hk⟩
    obtain ⟨a, ha⟩ := e 0 (by omega)
    obtain ⟨b, hb⟩ := e 1 (by omega)
    obtain ⟨c, hc⟩ := e 2 (by omega)
    obtain ⟨d, hd⟩ := e 3 (by omega)
    simp at ha hb hc hd hs
    subst ha; subst hb; subst hc; subst hd; subst hs
    exact ⟨⟨a, b, c, d, s⟩, rfl⟩

theorem list_of {α : Type} [Inhabited α] {n : Nat} {p : Nat → α → Prop} (h : ∀ i, i < n → ∃ x, p i x) : ∃ l : List α, l.length = n ∧ ∀ (i : Nat) (x : α), l[i]? = some x → p i x := by
  obtain ⟨f, hf⟩ := choose_lt h
  refine ⟨(List.range n).map f, by simp, fun i x hx => ?_⟩
  rw [List.getElem?_map] at hx
  obtain ⟨j, hj, rfl⟩ := Option.map_eq_some_iff.1 hx
  obtain ⟨hi, rfl⟩ := List.getElem?_eq_some_iff.1 hj
  simp only [List.getElem_range, List.length_range] at hi ⊢
  exact hf i hi

theorem rd_of {a : Addr} {xs : List Value} (h : ∀ (j : Nat) (u : Value), xs[j]? = some u → w.cell? (a.add j) = some u) : Rd w (some a) xs := by
  intro hne
  have h0 := h 0 (xs.head hne) (by cases xs with | nil => exact absurd rfl hne | cons y r => rfl)
  obtain ⟨b, off, spot⟩ := a
  have hs : spot = none := by
    unfold World.cell? at h0
    split at h0
    · cases spot with
      | none => rfl
      | some k => simp [Addr.add] at h0
    · cases h0
  subst hs
  have hb : b < w.heap.size := by
    unfold World.cell? at h0
    split at h0
    · rename_i hc
      exact (Array.getElem?_eq_some_iff.1 hc).1
    · cases h0
  exact ⟨b, off, rfl, hb, fun j u hu => by
    have := h j u hu
    by_cases hj : j = 0
    · subst hj; simpa [Addr.add] using this
    · simpa [Addr.add, hj] using this⟩

set_option maxRecDepth 100000 in
/-- a list of crossings in memory -/
theorem open_crs {fuel : Nat} {cs : List Value} {x : DataW H × List MemPlace} (h : DataW.trod enc Tryz.prog w base spare held fuel 22 cs = some x) :
    ∃ (A : Option Addr) (cap : Nat) (al : List Cr), cs = [.slice A al.length cap] ∧ Rd w A (crCells al) ∧ al.length ≤ 9223372036854775807 := by
  have c54 : Tryz.prog.cellsOf 54 = 5 := by kernel_rfl
  rcases open_slice Tryz.underlying22 h with ⟨rfl, -⟩ | ⟨a, len, cap, m, n, D, Pl, rfl, hb, hl, hm, hmm, -, hx⟩
  · exact ⟨none, 0, [], rfl, Rd.nil _ _, by simp⟩
  · have hlm : len ≤ m := by rw [hmm]; split <;> omega
    rw [c54] at hx
    have : Inhabited Cr := ⟨⟨0, 0, 0, 0, 0⟩⟩
    obtain ⟨al, hal, hp⟩ := list_of (α := Cr) (n := len) (p := fun i c => w.cells? base (a.add (i * 5)) 5 = some c.cells) (fun i hi => by
      obtain ⟨cs', h1, h2⟩ := hx i (by omega)
      obtain ⟨c, rfl⟩ := open_cr h2
      exact ⟨c, h1⟩)
    subst hal
    have h63 : cap ≤ 9223372036854775807 := by unfold maxLen at hm; omega
    refine ⟨some a, cap, al, rfl, ?_, by omega⟩
    refine rd_of fun j u hu => ?_
    have hj := (List.getElem?_eq_some_iff.1 hu).1
    have hfl : (crCells al).length = al.length * 5 := flatMap_len Cr.cells 5 Cr.len al
    rw [hfl] at hj
    have hi : j / 5 < al.length := by omega
    have hg := flatMap_get Cr.cells 5 Cr.len al (j / 5) (j % 5) al[j / 5] (List.getElem?_eq_getElem hi) (Nat.mod_lt _ (by omega))
    rw [show j / 5 * 5 + j % 5 = j by omega] at hg
    have hu2 : (al[j / 5]).cells[j % 5]? = some u := hg.symm.trans hu
    obtain ⟨-, -, hc⟩ := World.cells?_some (hp (j / 5) _ (List.getElem?_eq_getElem hi))
    have := hc (j % 5) (Nat.mod_lt _ (by omega))
    rw [hu2, add_add, show j / 5 * 5 + j % 5 = j by omega] at this
    exact this

set_option maxRecDepth 100000 in
/-- a diagram among the arguments -/
theorem open_dia {r : Reach} {b0 : Nat} {v : Value} {d : DataW H} {ps : List MemPlace} (hval : Value.okWide Tryz.prog w r b0 24 v) (h : DataW.Trod enc Tryz.prog w base spare held 24 v d ps) :
    ∃ (A : Option Addr) (cap : Nat) (al : List Cr) (L : Int), v = .agg #[.slice A al.length cap, .int .i64 L] ∧ Rd w A (crCells al) ∧ al.length ≤ 9223372036854775807 := by
  obtain ⟨cs, rfl, hsz⟩ := okWide_struct Tryz.underlying24 hval
  obtain ⟨fuel, hf⟩ := h
  obtain ⟨y0, y1, n, -, hl, h0, h1⟩ := trod_struct2 Tryz.underlying24 hf
  have c24 : Tryz.prog.cellsOf 24 = 2 := by kernel_rfl
  have c22 : Tryz.prog.cellsOf 22 = 1 := by kernel_rfl
  have c3 : Tryz.prog.cellsOf 3 = 1 := by kernel_rfl
  rw [c24] at hsz
  simp only [c22, c3] at h0 h1
  obtain ⟨l⟩ := cs
  match l, hsz with
  | [a, b], _ =>
    obtain ⟨L, hs, -, -⟩ := DataW.trod_int Tryz.underlying3 h1
    obtain ⟨A, cap, al, hc, hrd, hln⟩ := open_crs h0
    simp [Value.cells] at hs hc
    subst hs; subst hc
    exact ⟨A, cap, al, L, rfl, hrd, hln⟩

set_option maxRecDepth 100000 in
/-- a list of numbers among the arguments -/
theorem open_zs {v : Value} {d : DataW H} {ps : List MemPlace} {r : Reach} {b0 : Nat} (hval : Value.okWide Tryz.prog w r b0 25 v) (h : DataW.Trod enc Tryz.prog w base spare held 25 v d ps) :
    (v = .slice none 0 0) ∨ ∃ (A : Addr) (cap : Nat) (zs : List Int) (elems rest : List (DataW H)), v = .slice (some A) zs.length cap ∧ Rd w (some A) (ints zs) ∧ d = .slice elems rest ∧ elems.length = zs.length := by
  obtain ⟨a, len, cap, rfl⟩ := okWide_slice Tryz.underlying25 hval
  obtain ⟨fuel, hf⟩ := h
  rcases open_ints Tryz.underlying25 Tryz.underlying3 (by kernel_rfl) hf with ⟨hc, hx⟩ | ⟨a', len', cap', zs, hc, hb, hl, hm, hz, hx, hcs, _⟩
  · simp [Value.cells] at hc
    left; obtain ⟨rfl, rfl, rfl⟩ := hc; rfl
  · right
    simp [Value.cells] at hc
    obtain ⟨rfl, rfl, rfl⟩ := hc
    have hlz : len ≤ zs.length := by rw [hz]; split <;> omega
    have hzl : (zs.take len).length = len := by simp; omega
    simp only [Prod.mk.injEq] at hx
    refine ⟨a', cap, zs.take len, lits .i64 (zs.take len), lits .i64 (zs.drop len), by rw [hzl], rd_of fun j u hu => ?_, hx.1, by simp [lits]⟩
    unfold ints at hu
    rw [List.getElem?_map] at hu
    obtain ⟨z, hz2, rfl⟩ := Option.map_eq_some_iff.1 hu
    have hjl := (List.getElem?_eq_some_iff.1 hz2).1
    rw [hzl] at hjl
    rw [List.getElem?_take_of_lt hjl] at hz2
    have := hcs j (by omega)
    rw [List.getD, hz2] at this
    exact this
end

/-- what the row's list gives: the table reads as the library lays it -/
theorem table {W : World} (h : laidMetH Tryz.prog Rows.diagStaysRow.laid W) : TabAt W := by
  have h1 := h.filter (fun x => x.1 == "internal/strconv.uint64pow10")
  have e : Rows.diagStaysRow.laid.filter (fun x => x.1 == "internal/strconv.uint64pow10") = [("internal/strconv.uint64pow10", Lib.tabData .u64 Lib.pow10Tab)] := by rfl
  rw [e] at h1
  exact Lib.tabIs_of_head (rest := []) (g := 0) (t := 162) (e := 145) (n := 20) (by kernel_rfl) (by kernel_rfl) (by kernel_rfl) (by kernel_rfl) (by kernel_rfl) (by kernel_rfl) h1

set_option maxHeartbeats 1000000 in
set_option maxRecDepth 100000 in
theorem contract (H : Type) (enc : TypeId × Value → H) (W : World) (base : Nat) (args : Array Value) (ds gs : List (DataW H)) (before : List MemPlace)
    (hval : ∀ (j : Nat) t v, Tryz.f3.params[j]? = some t → args[j]? = some v → Value.okWide Tryz.prog W .any base t v)
    (hW : DataW.Whole enc Tryz.prog Tryz.f3.params.toList Rows.diagStaysSpec.vars false W args.toList ds gs before)
    (hz : (DataW.weightsEach Tryz.prog (Tryz.f3.params.toList ++ (OpenSpec.ofChange Rows.diagStaysSpec).bare.plain.varTypes Tryz.prog) (ds ++ gs)).all (· ≤ reachBytes) = true)
    (hL : laidMetH Tryz.prog Rows.diagStaysRow.laid W) :
    Calls Tryz.prog 3 args W fun e W' => ∃ v, e = .returned v ∧ Rows.diagStaysSpec.post enc Tryz.prog Tryz.f3 false true false false W args v W' := by
  have hW' := hW
  obtain ⟨p, q, hA0, hV, rfl, hfz, hnd⟩ := hW
  have hA : DataW.TrodAll enc Tryz.prog W 0 (fun _ => true) true Tryz.f3.params.toList args.toList ds p := hA0
  rw [Tryz.params3] at hA hval hz
  obtain ⟨v0, vs0, d0, ds0, p0, q0, hargs, rfl, rfl, h0, r0⟩ := trodAll_cons hA
  obtain ⟨v1, vs1, d1, ds1, p1, q1, rfl, rfl, rfl, h1, r1⟩ := trodAll_cons r0
  obtain ⟨v2, vs2, d2, ds2, p2, q2, rfl, rfl, rfl, h2, r2⟩ := trodAll_cons r1
  obtain ⟨v3, vs3, d3, ds3, p3, q3, rfl, rfl, rfl, h3, r3⟩ := trodAll_cons r2
  obtain ⟨v4, vs4, d4, ds4, p4, q4, rfl, rfl, rfl, h4, r4⟩ := trodAll_cons r3
  obtain ⟨v5, vs5, d5, ds5, p5, q5, rfl, rfl, rfl, h5, r5⟩ := trodAll_cons r4
  obtain ⟨rfl, rfl, rfl⟩ := trodAll_nil r5
  obtain rfl : args = #[v0, v1, v2, v3, v4, v5] := by cases args; simp_all
  obtain ⟨rfl, rfl⟩ := trodVars_none hV
  have hb : ∀ (t : TypeId) (v : Value) (d : DataW H) (ps : List MemPlace), Tryz.prog.readableRec t = true → t < Tryz.prog.types.size → DataW.Trod enc Tryz.prog W 0 (fun _ => true) true t v d ps → (∀ x ∈ ps, x ∈ p0 ++ (p1 ++ (p2 ++ (p3 ++ (p4 ++ (p5 ++ [])))))) → ∀ W', Below W.heap.size W W' → DataW.Trod enc Tryz.prog W' 0 (fun b => decide (b < W.heap.size)) true t v d ps :=
    fun t v d ps hr hrow h hin W' hn => Below.trod laidOut hr hrow h hn (fun x hx => by
      have := hW'.lt x (by simpa using hin x hx)
      simpa using this)
  have k0 := hb _ _ _ _ (by kernel_rfl) (of_decide_eq_true (by kernel_rfl)) h0 (fun x hx => by simp [hx])
  have k1 := hb _ _ _ _ (by kernel_rfl) (of_decide_eq_true (by kernel_rfl)) h1 (fun x hx => by simp [hx])
  have k2 := hb _ _ _ _ (by kernel_rfl) (of_decide_eq_true (by kernel_rfl)) h2 (fun x hx => by simp [hx])
  have k3 := hb _ _ _ _ (by kernel_rfl) (of_decide_eq_true (by kernel_rfl)) h3 (fun x hx => by simp [hx])
  have k4 := hb _ _ _ _ (by kernel_rfl) (of_decide_eq_true (by kernel_rfl)) h4 (fun x hx => by simp [hx])
  have k5 := hb _ _ _ _ (by kernel_rfl) (of_decide_eq_true (by kernel_rfl)) h5 (fun x hx => by simp [hx])
  have fin : ∀ W', Below W.heap.size W W' → Rows.diagStaysSpec.post enc Tryz.prog Tryz.f3 false true false false W #[v0, v1, v2, v3, v4, v5] (.bool true) W' := by
    intro W' hn
    refine ⟨_, _, _, [], _, [], hW', trodAll_mk1 (shut_bool Tryz.underlying4 true), trodAll_cons_mk (k0 W' hn) (trodAll_cons_mk (k1 W' hn) (trodAll_cons_mk (k2 W' hn) (trodAll_cons_mk (k3 W' hn) (trodAll_cons_mk (k4 W' hn) (trodAll_cons_mk (k5 W' hn) trodAll_mk0))))), rfl, hn.frame _, fun h => by cases h⟩
  clear k0 k1 k2 k3 k4 k5 hb hA hA0 r0 r1 r2 r3 r4 r5
  obtain ⟨A, capA, al, La, rfl, hra, hla⟩ := open_dia (hval 0 _ _ rfl rfl) h0
  obtain ⟨B, capB, bl, Lb, rfl, hrb, hlb⟩ := open_dia (hval 1 _ _ rfl rfl) h1
  obtain ⟨i, rfl, -, -, -⟩ := open_int Tryz.underlying3 (hval 2 _ _ rfl rfl) h2
  obtain ⟨j, rfl, -, -, -⟩ := open_int Tryz.underlying3 (hval 3 _ _ rfl rfl) h3
  have zs : ∀ (k : Nat) (v : Value) (d : DataW H) (ps : List MemPlace), (#[24, 24, 3, 3, 25, 25] : Array TypeId)[k]? = some 25 → #[.agg #[.slice A al.length capA, .int .i64 La], .agg #[.slice B bl.length capB, .int .i64 Lb], .int .i64 i, .int .i64 j, v4, v5][k]? = some v → [d0, d1, d2, d3, d4, d5][k]? = some d → DataW.Trod enc Tryz.prog W 0 (fun _ => true) true 25 v d ps →
      ∃ (X : Option Addr) (cap : Nat) (l : List Int), v = .slice X l.length cap ∧ Rd W X (ints l) ∧ l.length ≤ 17592186044415 := by
    intro k v d ps ht hv hd h
    rcases open_zs (hval k _ _ ht hv) h with rfl | ⟨X, cap, l, elems, rest, rfl, hrd, rfl, hl⟩
    · exact ⟨none, 0, [], rfl, Rd.nil _ _, by simp⟩
    · refine ⟨some X, cap, l, rfl, hrd, ?_⟩
      have hk : k < 6 := by have := (Array.getElem?_eq_some_iff.1 ht).1; simpa using this
      have := sized_slice (P := Tryz.prog) (j := k) (e := 3) hz (by rw [List.getElem?_append_left (by simpa using hk)]; simpa using ht) (by rw [List.getElem?_append_left (by simpa using hk)]; exact hd) Tryz.underlying25
      have b8 : Tryz.prog.bytesOf 3 = 8 := by kernel_rfl
      rw [b8, hl] at this
      unfold reachBytes at this
      omega
  obtain ⟨Ao, co, order, rfl, hro, hlo⟩ := zs 4 _ _ _ rfl rfl rfl h4
  obtain ⟨Aa, ca, arcs, rfl, hrc, hlc⟩ := zs 5 _ _ _ rfl rfl rfl h5
  refine (diagStays_any al bl A B capA capB La Lb i j order arcs Ao Aa co ca W hra hrb hro hrc hla hlb hlo hlc (table hL)).mono ?_
  rintro e W' ⟨rfl, hf⟩
  exact ⟨_, rfl, fin W' hf.below⟩

/-! ### the row, and its card -/
def wArgs : Array Value := #[.agg #[.slice none 0 0, .int .i64 0], .agg #[.slice none 0 0, .int .i64 0], .int .i64 0, .int .i64 0, .slice none 0 0, .slice none 0 0]
theorem reads (os : Os) {H : Type} (enc : TypeId × Value → H) : ∃ places, DataW.whole enc Tryz.prog ((World.laidAll Tryz.prog os Rows.diagStaysRow.laid).forCall (fun _ _ => 0) ⟨#[], wArgs, []⟩).memory Tryz.f3.params.toList Rows.diagStaysSpec.vars false wArgs.toList 8 =
    some ([.agg [.nil, .lit (.int .i64 0)], .agg [.nil, .lit (.int .i64 0)], .lit (.int .i64 0), .lit (.int .i64 0), .nil, .nil], [], places) :=
  ⟨[], by kernel_rfl⟩

set_option maxRecDepth 100000 in
theorem lifted (os : Os) (started : os.Started) (H : Type) (enc : TypeId × Value → H) (F : Stop.Interp) :
    ReturnsInHanded {} Tryz.checked os 3 .any ((OpenSpec.ofChange Rows.diagStaysSpec).preRow enc Tryz.prog Tryz.f3 Rows.diagStaysRow.domain false Rows.diagStaysRow.laid) (((OpenSpec.ofChange Rows.diagStaysSpec).at F).post enc Tryz.prog Tryz.f3 false true false false) := by
  obtain ⟨places, hx⟩ := reads os enc
  refine returnsInHanded_of_row (C := Tryz.checked) (s := OpenSpec.ofChange Rows.diagStaysSpec) own started (by kernel_rfl) Tryz.func3
    (witness_row_at (enc := enc) (C := Tryz.checked) false (World.laidAll Tryz.prog os Rows.diagStaysRow.laid) wArgs (World.laidAll_os _ _ _) (by kernel_rfl) (by kernel_rfl) (by kernel_rfl)
      (OpenSpec.preRow_of_cond 8 hx (by kernel_rfl) (fun k hk => by cases hk) (by kernel_rfl) (by rw [MakeChecks.laidMetH_plain _ _ _ (by kernel_rfl)]; exact laidMet_laidAll _ (by kernel_rfl) (by kernel_rfl)))) ?_
  intro W base args ds gs before hval hW _ _ hz hL _ _
  exact contract H enc W base args ds gs before hval hW hz hL

theorem said : Rows.DiagStaysSaid :=
  OpenClaim.holds_of_cond 3 Tryz.f3 rfl rfl rfl rfl rfl rfl rfl ⟨rfl, rfl, rfl, rfl, rfl⟩ rfl rfl rfl rfl rfl (by kernel_rfl) Tryz.func3 (by kernel_rfl)
    (of_decide_eq_true (by kernel_rfl)) (by unfold Func.isWrapper; first | (rw [if_pos (by decide +kernel)]; kernel_rfl) | (rw [if_neg (by decide +kernel)]; exact ⟨rfl, rfl⟩))
    (fun os started H enc _ F => by rw [OpenClaim.pre_eq_preRow]; exact lifted os started H enc F)

/-- no parameter wants a stand-in; the program's own looks are off -/
theorem plain (f : FuncId) (fn : Func) (hf : Tryz.pinned.checked.prog.funcNamed "sphenoid/sphenoidlaw22.DiagStays" = some f) (hfn : Tryz.pinned.checked.prog.funcs[f]? = some fn) :
    false = Tryz.pinned.checked.prog.looks [] ∧ ∀ (j : Nat) t, fn.params[j]? = some t → Tryz.pinned.checked.prog.wantsStandIn t = false := by
  obtain rfl : f = 3 := Option.some.inj ((show Tryz.prog.funcNamed "sphenoid/sphenoidlaw22.DiagStays" = some 3 by kernel_rfl).symm.trans hf) |>.symm
  obtain rfl : fn = Tryz.f3 := (Option.some.inj (Tryz.func3.symm.trans hfn)).symm
  refine ⟨by kernel_rfl, fun j t ht => ?_⟩
  rw [Tryz.params3] at ht
  have hm := Array.mem_of_getElem? ht
  simp only [List.mem_toArray, List.mem_cons, List.not_mem_nil, or_false] at hm
  have h24 : Tryz.prog.wantsStandIn 24 = false := by kernel_rfl
  have h3 : Tryz.prog.wantsStandIn 3 = false := by kernel_rfl
  have h25 : Tryz.prog.wantsStandIn 25 = false := by kernel_rfl
  rcases hm with rfl | rfl | rfl | rfl | rfl | rfl
  · exact h24
  · exact h24
  · exact h3
  · exact h3
  · exact h25
  · exact h25

/-- THE CARD. -/
theorem x_holds : Rows.DiagStaysCardSaid :=
  Claim7.holds_tied_plain_at .later [] _ _ _ _ said (fun _ h => by cases h) (by kernel_rfl) (fun _ h => by cases h) diagStays_row_tie rfl ⟨rfl, rfl⟩ (by kernel_rfl) rfl plain (by kernel_rfl)
#print axioms x_holds
end Go.Proofs.YtjmgjkcjnjlpdaaGreatDoor
