/- sphenoidlaw22.DiagStays: a part of its proof: walks of the functions that it comes to, and plain laws (A1, A2, A3, A4, A5, A6, A7, A8). -/
import Derived.WalkKit
import Derived.WalkSpells
import Derived.Maps.OwnOps
import Derived.Deep.Draws
import Derived.Deep.QuietTactic
import Derived.Maps.AppendAt
import Derived.RangeFuncWrites
import Derived.RangeFuncLeaves
import Derived.RangeFuncNested
import Derived.RangeFuncBound
import Derived.RangeFuncCalls
import Derived.Shelf.Abstract
import Derived.Shelf.RegionOpen
import Derived.OwnWalkIn
import Derived.TacticsInMore
import Derived.LoopNIn
import Derived.LoopIn
import Derived.Maps.OwnIn
import Derived.Sort.LoopGhostIn
set_option linter.unusedVariables false
set_option linter.unusedSimpArgs false
set_option linter.unusedSectionVars false
/-! ## A1 -/
namespace Go.Proofs.YtjmgjkcjnjlpdaaGreatDoor
open Go.RowKit

/-! ### maps as association lists -/
section
variable {K V : Type} [DecidableEq K]

def findI (key : K) : List (K × V) → Nat → Option (Nat × V)
  | [], _ => none
  | p :: r, i => if key = p.1 then some (i, p.2) else findI key r (i + 1)

def aget (l : List (K × V)) (key : K) : Option V := (findI key l 0).map (·.2)
def aset (l : List (K × V)) (key : K) (v : V) : List (K × V) :=
  match findI key l 0 with
  | some (i, _) => l.set i (key, v)
  | none => l ++ [(key, v)]

theorem findI_shift (key : K) : ∀ (l : List (K × V)) (i j : Nat), findI key l (i + j) = (findI key l i).map (fun p => (p.1 + j, p.2))
  | [], _, _ => rfl
  | p :: r, i, j => by
    unfold findI
    split
    · rfl
    · rw [show i + j + 1 = (i + 1) + j by omega]; exact findI_shift key r (i + 1) j

theorem findI_some {key : K} : ∀ {l : List (K × V)} {i n : Nat} {v : V}, findI key l i = some (n, v) → ∃ j, n = i + j ∧ l[j]? = some (key, v)
  | [], _, _, _, h => by cases h
  | p :: r, i, n, v, h => by
    unfold findI at h
    split at h
    · rename_i e
      cases h
      exact ⟨0, rfl, by simp [e]⟩
    · obtain ⟨j, rfl, hj⟩ := findI_some h
      exact ⟨j + 1, by omega, by simpa using hj⟩
end

/-- What a map type's operations ask. -/
structure MapTy (P : Program) (t k e : TypeId) {K V : Type} [DecidableEq K] (ek : K → Value) (ev : V → Value) (z : Value) : Prop where
  und : P.underlying t = some (.map k e)
  check : ∀ (w : World) em key, (Instr.checkKey em 10000 k (ek key)).run P w = .ok () w
  stays : ∀ (w : World) key, (Instr.keyThatStays (ek key) (ek key)).run P w = .ok (ek key) w
  zero : ∀ w, (zeroValue e).run P w = .ok z w
  find : ∀ (w : World) key (kvs : List (K × V)) (es : List MapEntry), es.map (fun x => (x.key, x.val)) = kvs.map (fun p => (ek p.1, ev p.2)) →
    (Instr.findKey k (ek key) es).run P w = .ok ((findI key kvs 0).map (fun p => (p.1, ev p.2))) w

def MapAt (w : World) (b : Nat) {K V : Type} (ek : K → Value) (ev : V → Value) (kvs : List (K × V)) : Prop :=
  ∃ es clock, w.heap[b]? = some (.map es clock) ∧ es.toList.map (fun x => (x.key, x.val)) = kvs.map (fun p => (ek p.1, ev p.2))

section
variable {P : Program} {t k e : TypeId} {K V : Type} [DecidableEq K] {ek : K → Value} {ev : V → Value} {z : Value} {w : World} {b : Nat} {kvs : List (K × V)}

omit [DecidableEq K] in
theorem MapAt.made (w : World) (ek : K → Value) (ev : V → Value) : MapAt (w.alloc (.map #[] 0)) w.heap.size ek ev [] :=
  ⟨#[], 0, (MapKept.heap_alloc w _).1, rfl⟩
omit [DecidableEq K] in
theorem MapAt.same {w' : World} (h : MapAt w b ek ev kvs) (hb : w'.heap[b]? = w.heap[b]?) : MapAt w' b ek ev kvs := by
  obtain ⟨es, cl, h1, h2⟩ := h
  exact ⟨es, cl, hb.trans h1, h2⟩
omit [DecidableEq K] in
theorem MapAt.lt (h : MapAt w b ek ev kvs) : b < w.heap.size := by
  obtain ⟨es, cl, h1, h2⟩ := h
  exact (Array.getElem?_eq_some_iff.1 h1).1
omit [DecidableEq K] in
theorem MapAt.alloc (h : MapAt w b ek ev kvs) (o : Obj) : MapAt (w.alloc o) b ek ev kvs := h.same (Below.heap_alloc w o b h.lt)
omit [DecidableEq K] in
theorem MapAt.setCell (h : MapAt w b ek ev kvs) (a : Addr) (v : Value) (hne : b ≠ a.block) : MapAt (w.setCell a v) b ek ev kvs := h.same (Below.heap_setCell w a v b hne)
omit [DecidableEq K] in
theorem MapAt.below {B : Nat} {w' : World} (h : MapAt w b ek ev kvs) (hb : Below B w w') (hB : b < B) : MapAt w' b ek ev kvs := h.same (hb.block b hB)
omit [DecidableEq K] in
theorem MapAt.grown {w' : World} {row : Option Nat} (h : MapAt w b ek ev kvs) (hg : w.grownBy w' row) (hne : some b ≠ row) : MapAt w' b ek ev kvs := h.same (hg.block b h.lt hne)

theorem MapAt.run_lookup (T : MapTy P t k e ek ev z) (h : MapAt w b ek ev kvs) (key : K) (c : Bool) :
    (Instr.lookup t (.map (some b)) (ek key) c).run P w = .ok (if c then .tuple #[((aget kvs key).map ev).getD z, .bool (aget kvs key).isSome] else ((aget kvs key).map ev).getD z) w := by
  obtain ⟨es, cl, hb, hes⟩ := h
  have hf := T.find w key kvs es.toList hes
  unfold aget
  cases hx : findI key kvs 0 with
  | none =>
    rw [hx] at hf
    simp [Instr.lookup, run_underlying T.und, MapKept.run_getObj_map hb, T.check, hf, T.zero, Result.andThen]
  | some p =>
    obtain ⟨i, v⟩ := p
    rw [hx] at hf
    simp [Instr.lookup, run_underlying T.und, MapKept.run_getObj_map hb, T.check, hf, Result.andThen]

theorem MapAt.run_update (T : MapTy P t k e ek ev z) (h : MapAt w b ek ev kvs) (key : K) (v : V) :
    ∃ w', (Instr.mapUpdate t (.map (some b)) (ek key) (ev v)).run P w = .ok () w' ∧ MapAt w' b ek ev (aset kvs key v) ∧ w.grownBy w' (some b) ∧ w'.heap.size = w.heap.size := by
  have hlt := h.lt
  obtain ⟨es, cl, hb, hes⟩ := h
  have hf := T.find w key kvs es.toList hes
  have fin : ∀ o : Obj, w.grownBy { w with heap := w.heap.setIfInBounds b o } (some b) := fun o =>
    ⟨rfl, rfl, rfl, by simp, fun i _ hi => by
      have : i ≠ b := fun e => hi (by rw [e])
      simp [this.symm]⟩
  unfold aset
  cases hx : findI key kvs 0 with
  | none =>
    rw [hx] at hf
    refine ⟨{ w with heap := w.heap.setIfInBounds b (.map (es.push ⟨ek key, ev v, cl⟩) (cl + 1)) }, ?_, ⟨es.push ⟨ek key, ev v, cl⟩, cl + 1, ?_, ?_⟩, fin _, by simp⟩
    · simp [Instr.mapUpdate, run_underlying T.und, MapKept.run_getObj_map hb, T.check, hf, MapKept.run_setObj_map _ hb, Result.andThen]
    · simp [hlt]
    · simp [hes]
  | some p =>
    obtain ⟨i, u⟩ := p
    obtain ⟨j, e0, hj⟩ := findI_some hx
    obtain rfl : i = j := by omega
    rw [hx] at hf
    have hle : es.toList.length = kvs.length := by have := congrArg List.length hes; simpa using this
    have hi : i < kvs.length := (List.getElem?_eq_some_iff.1 hj).1
    obtain ⟨x, hxe⟩ : ∃ x, es[i]? = some x := ⟨es[i]'(by simp at hle; omega), Array.getElem?_eq_getElem _⟩
    have hkey : x.key = ek key := by
      have h1 : (es.toList.map (fun x => (x.key, x.val)))[i]? = some (x.key, x.val) := by simp [hxe]
      rw [hes] at h1
      simp [hj] at h1
      exact h1.1.symm
    refine ⟨{ w with heap := w.heap.setIfInBounds b (.map (es.modify i fun e => { e with key := ek key, val := ev v }) cl) }, ?_, ⟨es.modify i fun e => { e with key := ek key, val := ev v }, cl, ?_, ?_⟩, fin _, by simp⟩
    · simp [Instr.mapUpdate, run_underlying T.und, MapKept.run_getObj_map hb, T.check, hf, hxe, hkey, T.stays, MapKept.run_setObj_map _ hb, Result.andThen]
    · simp [hlt]
    · simp only [Array.toList_modify]
      apply List.ext_getElem?
      intro n
      have hn : (es.toList.map (fun x => (x.key, x.val)))[n]? = (kvs.map (fun p => (ek p.1, ev p.2)))[n]? := by rw [hes]
      simp only [List.getElem?_map, List.getElem?_modify, List.getElem?_set] at hn ⊢
      by_cases hin : i = n
      · subst hin
        have hxe' : es.toList[i]? = some x := by simpa using hxe
        simp [hi, hxe']
      · simp only [hin, if_false]
        cases hh : es.toList[n]? with
        | none => rw [hh] at hn; simpa using hn
        | some y => rw [hh] at hn; simpa using hn

end

section
variable {P : Program} {ops : Array Oper} {rest : List Oper} {o : Oper} {a : Act} {Q : Exit → Act → World → Prop}

theorem wpList_lookup_at {t k e : TypeId} {K V : Type} [DecidableEq K] {ek : K → Value} {ev : V → Value} {z : Value} {b : Nat} {kvs : List (K × V)} (w : World)
    (hg : o.guard = none) (m x : Operand) (c : Bool) (T : MapTy P t k e ek ev z) (hop : o.op = Op.lookup t m x c) (hmap : MapAt w b ek ev kvs) (key : K)
    (hm : a.eval m = .map (some b)) (hx : a.eval x = ek key)
    (hK : wpList P ops Q rest (a.put o.dst (if c then .tuple #[((aget kvs key).map ev).getD z, .bool (aget kvs key).isSome] else ((aget kvs key).map ev).getD z)) w) :
    wpList P ops Q (o :: rest) a w := by
  refine wpList_plain hg fun K' hK' => ?_
  have hrun := hmap.run_lookup T key c
  unfold Oper.wp
  simp only [execOp, hop, hm, hx]
  simp only [Sem.run_bind, hrun, Result.andThen, Sem.run_pure]
  simp only [Oper.upon]
  exact hK' _ _ hK

theorem wpList_update_at {t k e : TypeId} {K V : Type} [DecidableEq K] {ek : K → Value} {ev : V → Value} {z : Value} {b : Nat} {kvs : List (K × V)} (w : World)
    (hg : o.guard = none) (m x v : Operand) (T : MapTy P t k e ek ev z) (hop : o.op = Op.mapUpdate t m x v) (hmap : MapAt w b ek ev kvs) (key : K) (val : V)
    (hm : a.eval m = .map (some b)) (hx : a.eval x = ek key) (hv : a.eval v = ev val)
    (hK : ∀ w', MapAt w' b ek ev (aset kvs key val) → w.grownBy w' (some b) → w'.heap.size = w.heap.size → wpList P ops Q rest (a.put o.dst undef) w') :
    wpList P ops Q (o :: rest) a w := by
  refine wpList_plain hg fun K' hK' => ?_
  obtain ⟨w', hrun, h1, h2, h3⟩ := hmap.run_update T key val
  unfold Oper.wp
  simp [execOp, hop, hm, hx, hv, hrun, Result.andThen]
  exact hK' _ _ (hK w' h1 h2 h3)
end

/-! ### key types -/
section
variable {P : Program} {k : TypeId} {K V : Type} [DecidableEq K] {ek : K → Value} {ev : V → Value}

theorem run_findAsking (heq : ∀ (w : World) a b, (Op.equal k (ek a) (ek b)).run P w = .ok (decide (a = b)) w) (w : World) (key : K) :
    ∀ (kvs : List (K × V)) (es : List MapEntry) (i : Nat), es.map (fun x => (x.key, x.val)) = kvs.map (fun p => (ek p.1, ev p.2)) →
    (Instr.findAsking k (ek key) es i).run P w = .ok ((findI key kvs i).map (fun p => (p.1, ev p.2))) w
  | [], [], i, _ => by simp [Instr.findAsking, findI]
  | [], _ :: _, _, h => by simp at h
  | _ :: _, [], _, h => by simp at h
  | p :: r, x :: es, i, h => by
    simp only [List.map_cons, List.cons.injEq, Prod.mk.injEq] at h
    obtain ⟨⟨h1, h2⟩, h3⟩ := h
    have ih := run_findAsking heq w key r es (i + 1) h3
    by_cases hp : key = p.1
    · simp [Instr.findAsking, h1, h2, heq, findI, hp]
    · simp [Instr.findAsking, h1, heq, findI, hp, ih]

theorem find_of_struct {fs : Array Field} (hk : P.underlying k = some (.struct fs)) (heq : ∀ (w : World) a b, (Op.equal k (ek a) (ek b)).run P w = .ok (decide (a = b)) w)
    (w : World) (key : K) (kvs : List (K × V)) (es : List MapEntry) (h : es.map (fun x => (x.key, x.val)) = kvs.map (fun p => (ek p.1, ev p.2))) :
    (Instr.findKey k (ek key) es).run P w = .ok ((findI key kvs 0).map (fun p => (p.1, ev p.2))) w := by
  have ha := run_findAsking heq w key kvs es 0 h
  cases es with
  | nil =>
    cases kvs with
    | nil => simp [Instr.findKey, Instr.findNow, run_underlying hk, findI]
    | cons _ _ => simp at h
  | cons x es => simp [Instr.findKey, Instr.findNow, Instr.sameNow, run_underlying hk, ha]

theorem findNow_int (w : World) (q : IntKind) (key : Int) (V : Type) (ev : V → Value) : ∀ (kvs : List (Int × V)) (es : List MapEntry) (i : Nat), es.map (fun x => (x.key, x.val)) = kvs.map (fun p => (Value.int q p.1, ev p.2)) →
    Instr.findNow (.int q) (.int q key) es i = some ((findI key kvs i).map (fun p => (p.1, ev p.2)))
  | [], [], i, _ => by simp [Instr.findNow, findI]
  | [], _ :: _, _, h => by simp at h
  | _ :: _, [], _, h => by simp at h
  | p :: r, x :: es, i, h => by
    simp only [List.map_cons, List.cons.injEq, Prod.mk.injEq] at h
    obtain ⟨⟨h1, h2⟩, h3⟩ := h
    have ih := findNow_int w q key V ev r es (i + 1) h3
    by_cases hp : key = p.1
    · simp [Instr.findNow, Instr.sameNow, h1, h2, findI, hp]
    · have hb : (key == p.1) = false := by simpa using hp
      simp [Instr.findNow, Instr.sameNow, h1, findI, hp, ih, hb]

theorem find_of_int {q : IntKind} {V : Type} {ev : V → Value} (hk : P.underlying k = some (.int q)) (w : World) (key : Int) (kvs : List (Int × V)) (es : List MapEntry)
    (h : es.map (fun x => (x.key, x.val)) = kvs.map (fun p => (Value.int q p.1, ev p.2))) :
    (Instr.findKey k (.int q key) es).run P w = .ok ((findI key kvs 0).map (fun p => (p.1, ev p.2))) w := by
  simp [Instr.findKey, run_underlying hk, findNow_int w q key V ev kvs es 0 h]
end
end Go.Proofs.YtjmgjkcjnjlpdaaGreatDoor

/-! ## A2 -/
namespace Go.Proofs.YtjmgjkcjnjlpdaaGreatDoor
open Go.RowKit

@[go_sem] theorem lt_add1 {a b : Nat} (h : a < b) : a < b + 1 := Nat.lt_succ_of_lt h
@[go_sem] theorem setCell_twice (w : World) (a : Addr) (u v : Value) : (w.setCell a u).setCell a v = w.setCell a v := by
  simp only [World.setCell, World.mk.injEq, and_true]
  apply Array.ext_getElem?
  intro i
  simp only [Array.getElem?_modify]
  by_cases h : a.block = i
  · simp only [h, if_true]
    cases w.heap[i]? with
    | none => rfl
    | some o => cases o <;> simp; split <;> simp
  · simp [h]
theorem hid {p : Prop} (h : p) : Hid p := h

/-! ### frames: of the blocks that w has, those outside the list S lie as they lay -/
structure Fr (S : List Nat) (w w' : World) : Prop where
  os : w'.os = w.os
  tape : w'.tape = w.tape
  output : w'.output = w.output
  size : w.heap.size ≤ w'.heap.size
  block : ∀ k, k < w.heap.size → k ∉ S → w'.heap[k]? = w.heap[k]?

section
variable {S S' : List Nat} {w w' w'' a b c : World}
theorem Fr.refl (S : List Nat) (w : World) : Fr S w w := ⟨rfl, rfl, rfl, Nat.le_refl _, fun _ _ _ => rfl⟩
theorem Fr.weaken (h : Fr S w w') (hs : ∀ k, k ∈ S → k ∈ S' ∨ w.heap.size ≤ k) : Fr S' w w' :=
  ⟨h.os, h.tape, h.output, h.size, fun k hk hn => h.block k hk fun hm => (hs k hm).elim hn fun hh => by omega⟩
theorem Fr.trans (h : Fr S a b) (k : Fr S' b c) (hs : ∀ i, i ∈ S' → i ∈ S ∨ a.heap.size ≤ i) : Fr S a c :=
  ⟨k.os.trans h.os, k.tape.trans h.tape, k.output.trans h.output, Nat.le_trans h.size k.size, fun i hi hn =>
    (k.block i (Nat.lt_of_lt_of_le hi h.size) fun hm => (hs i hm).elim hn fun hh => by omega).trans (h.block i hi hn)⟩
theorem Fr.then (h : Fr S a b) (k : Fr [] b c) : Fr S a c := h.trans k (by simp)
theorem Fr.alloc (h : Fr S a b) (o : Obj) : Fr S a (b.alloc o) :=
  h.then ⟨rfl, rfl, rfl, by simp, fun k hk _ => Below.heap_alloc _ _ _ hk⟩
theorem Fr.drew (h : Fr S a b) : Fr S a b.drew := ⟨h.os, h.tape, h.output, h.size, h.block⟩
theorem Fr.drewN (h : Fr S a b) (n : Nat) : Fr S a (b.drewN n) := ⟨h.os, h.tape, h.output, h.size, h.block⟩
theorem Fr.setCell (h : Fr S a b) {p : Addr} (hp : p.block ∈ S ∨ a.heap.size ≤ p.block) (u : Value) : Fr S a (b.setCell p u) :=
  h.trans (S' := [p.block]) ⟨rfl, rfl, rfl, by simp [World.setCell], fun k _ hk => Below.heap_setCell _ _ _ _ (by simpa using hk)⟩ (by simpa using hp)
theorem Fr.grown {row : Option Nat} (h : Fr S a b) (hg : b.grownBy c row) (hr : ∀ k, row = some k → k ∈ S ∨ a.heap.size ≤ k) : Fr S a c := by
  refine h.trans (S' := row.toList) ⟨hg.os, hg.tape, hg.output, hg.size, fun k hk hn => hg.block k hk fun e => hn (by rw [← e]; simp)⟩ ?_
  intro i hi
  exact hr i (by simpa [eq_comm] using hi)
theorem Fr.of_below (h : Below w.heap.size w w') : Fr S w w' := ⟨h.os, h.tape, h.output, h.size, fun k hk _ => h.block k hk⟩
theorem Fr.below (h : Fr [] w w') : Below w.heap.size w w' := ⟨h.os, h.tape, h.output, h.size, fun k hk => h.block k hk (by simp)⟩
theorem Fr.cell (h : Fr S w w') {p : Addr} {v : Value} (hp : w.cell? p = some v) (hn : p.block ∉ S) : w'.cell? p = some v := by
  have hlt : p.block < w.heap.size := by
    rcases Nat.lt_or_ge p.block w.heap.size with h1 | h1
    · exact h1
    · simp [World.cell?, Array.getElem?_eq_none h1] at hp
  rw [World.cell?_of_block (w := w) (h.block _ hlt hn)]; exact hp
theorem Fr.cellE (h : Fr S w w') {p : Addr} (hl : p.block < w.heap.size) (hn : p.block ∉ S) : w'.cell? p = w.cell? p :=
  World.cell?_of_block (w := w) (h.block _ hl hn)
theorem Fr.frozenE (h : Fr S w w') {p : Addr} (hl : p.block < w.heap.size) (hn : p.block ∉ S) : w'.frozen? p = w.frozen? p :=
  World.frozen?_of_block (w := w) (h.block _ hl hn)
theorem Fr.heap (h : Fr S w w') {i : Nat} {o : Obj} (hi : w.heap[i]? = some o) (hn : i ∉ S) : w'.heap[i]? = some o :=
  (h.block i (Array.getElem?_eq_some_iff.1 hi).1 hn).trans hi
theorem Fr.map {K V : Type} {ek : K → Value} {ev : V → Value} {kvs : List (K × V)} {i : Nat} (h : Fr S w w') (hm : MapAt w i ek ev kvs) (hn : i ∉ S) : MapAt w' i ek ev kvs :=
  hm.same (h.block i hm.lt hn)
theorem Fr.alloc1 (w : World) (o : Obj) : Fr [] w (w.alloc o) := (Fr.refl [] w).alloc o
end

/-! ### a row of cells that is read -/
/-- The slice's address A leads to a row that holds the cells xs (nothing is asked where xs is empty). -/
def Rd (w : World) (A : Option Addr) (xs : List Value) : Prop :=
  xs ≠ [] → ∃ b off, A = some ⟨b, off, none⟩ ∧ b < w.heap.size ∧ ∀ j u, xs[j]? = some u → w.cell? ⟨b, off + j, none⟩ = some u

section
variable {w w' : World} {A : Option Addr} {xs : List Value} {S : List Nat}
theorem Rd.nil (w : World) (A : Option Addr) : Rd w A [] := fun h => absurd rfl h
theorem Rd.fr (h : Rd w A xs) (hf : Fr S w w') (hn : xs ≠ [] → ∀ a, A = some a → a.block ∉ S) : Rd w' A xs := fun hx => by
  obtain ⟨b, off, rfl, hb, hc⟩ := h hx
  exact ⟨b, off, rfl, Nat.lt_of_lt_of_le hb hf.size, fun j u hu => hf.cell (hc j u hu) (hn hx ⟨b, off, none⟩ rfl)⟩
theorem Rd.fr0 (h : Rd w A xs) (hf : Fr [] w w') : Rd w' A xs := h.fr hf (by simp)
theorem Rd.lt (h : Rd w A xs) (hx : xs ≠ []) : ∃ b off, A = some ⟨b, off, none⟩ ∧ b < w.heap.size := by
  obtain ⟨b, off, h1, h2, _⟩ := h hx; exact ⟨b, off, h1, h2⟩
/-- The block of a slice's address, if it has one that is read, lies among the old ones. -/
theorem Rd.block (h : Rd w A xs) (hx : xs ≠ []) : ∀ a, A = some a → a.block < w.heap.size := by
  obtain ⟨b, off, rfl, h2, _⟩ := h hx
  rintro a ⟨⟩; exact h2
end

def I (n : Int) : Value := .int .i64 n

/-! ### crossings -/
structure Cr where
  (a b c d s : Int)
  deriving DecidableEq, Repr

def Cr.cells (x : Cr) : List Value := [.int .i64 x.a, .int .i64 x.b, .int .i64 x.c, .int .i64 x.d, .int .i64 x.s]
def Cr.val (x : Cr) : Value := .agg #[.int .i64 x.a, .int .i64 x.b, .int .i64 x.c, .int .i64 x.d, .int .i64 x.s]
def Cr.arc (x : Cr) : Nat → Int
  | 0 => x.a | 1 => x.b | 2 => x.c | _ => x.d

def crCells (l : List Cr) : List Value := l.flatMap Cr.cells

theorem flatMap_get {α β : Type} (f : α → List β) (k : Nat) (hk : ∀ x, (f x).length = k) : ∀ (l : List α) (i j : Nat) (x : α), l[i]? = some x → j < k → (l.flatMap f)[i * k + j]? = (f x)[j]?
  | [], _, _, _, h, _ => by simp at h
  | y :: r, 0, j, x, h, hj => by
    simp at h; subst h
    rw [List.flatMap_cons, List.getElem?_append_left (by rw [hk]; omega)]; simp
  | y :: r, i + 1, j, x, h, hj => by
    rw [List.flatMap_cons, List.getElem?_append_right (by rw [hk]; exact Nat.le_trans (by rw [Nat.add_mul]; omega) (Nat.le_add_right _ _)), hk]
    have : (i + 1) * k + j - k = i * k + j := by rw [Nat.add_mul]; omega
    rw [this]
    exact flatMap_get f k hk r i j x (by simpa using h) hj

theorem flatMap_len {α β : Type} (f : α → List β) (k : Nat) (hk : ∀ x, (f x).length = k) (l : List α) : (l.flatMap f).length = l.length * k := by
  induction l with
  | nil => simp
  | cons x l ih => rw [List.flatMap_cons, List.length_append, ih, hk, List.length_cons, Nat.add_mul]; omega

/-- Of a row of k-cell elements: the element at i. -/
theorem Rd.elem {α : Type} {f : α → List Value} {k : Nat} (hk : ∀ x, (f x).length = k) (hk0 : 0 < k) {w : World} {A : Option Addr} {l : List α} (h : Rd w A (l.flatMap f)) {i : Nat} {x : α} (hi : l[i]? = some x) :
    ∃ b off, A = some ⟨b, off, none⟩ ∧ b < w.heap.size ∧ ∀ j u, (f x)[j]? = some u → w.cell? ⟨b, off + i * k + j, none⟩ = some u := by
  have hlt : i < l.length := (List.getElem?_eq_some_iff.1 hi).1
  have hne : l.flatMap f ≠ [] := by
    intro h0
    have h1 := congrArg List.length h0
    rw [flatMap_len f k hk] at h1
    have h2 : 1 * 1 ≤ l.length * k := Nat.mul_le_mul (by omega) (by omega)
    rw [h1] at h2
    exact absurd h2 (by simp)
  obtain ⟨b, off, e, hb, hc⟩ := h hne
  refine ⟨b, off, e, hb, fun j u hu => ?_⟩
  have hj : j < k := by rw [← hk x]; exact (List.getElem?_eq_some_iff.1 hu).1
  rw [Nat.add_assoc]
  exact hc _ _ ((flatMap_get f k hk l i j x hi hj).trans hu)

theorem Cr.len (x : Cr) : x.cells.length = 5 := rfl

/-- The five cells of the crossing i. -/
theorem Rd.cr {w : World} {A : Option Addr} {l : List Cr} (h : Rd w A (crCells l)) {i : Nat} {x : Cr} (hi : l[i]? = some x) :
    ∃ b off, A = some ⟨b, off, none⟩ ∧ b < w.heap.size ∧ w.cell? ⟨b, off + i * 5, none⟩ = some (.int .i64 x.a) ∧ w.cell? ⟨b, off + i * 5 + 1, none⟩ = some (.int .i64 x.b) ∧
      w.cell? ⟨b, off + i * 5 + 2, none⟩ = some (.int .i64 x.c) ∧ w.cell? ⟨b, off + i * 5 + 3, none⟩ = some (.int .i64 x.d) ∧ w.cell? ⟨b, off + i * 5 + 4, none⟩ = some (.int .i64 x.s) := by
  obtain ⟨b, off, e, hb, hc⟩ := Rd.elem (f := Cr.cells) (k := 5) Cr.len (by omega) h hi
  exact ⟨b, off, e, hb, hc 0 _ rfl, hc 1 _ rfl, hc 2 _ rfl, hc 3 _ rfl, hc 4 _ rfl⟩
end Go.Proofs.YtjmgjkcjnjlpdaaGreatDoor

/-! ## A3 -/
namespace Go.Proofs.YtjmgjkcjnjlpdaaGreatDoor
open Go.RowKit

/-! ### rows that the call has made -/
/-- Block g holds just the cells xs of the element type t. -/
def RowAt (w : World) (g : Nat) (t : TypeId) (xs : List Value) : Prop := w.heap[g]? = some (.cells xs.toArray t (0, 0))

section
variable {w w' : World} {g : Nat} {t : TypeId} {xs : List Value} {S : List Nat}
theorem RowAt.lt (h : RowAt w g t xs) : g < w.heap.size := (Array.getElem?_eq_some_iff.1 h).1
theorem RowAt.new (w : World) (t : TypeId) (xs : List Value) : RowAt (w.alloc (.cells xs.toArray t)) w.heap.size t xs := by
  unfold RowAt; exact heap_alloc_new w _
theorem RowAt.fr (h : RowAt w g t xs) (hf : Fr S w w') (hn : g ∉ S) : RowAt w' g t xs := hf.heap h hn
theorem RowAt.alloc (h : RowAt w g t xs) (o : Obj) : RowAt (w.alloc o) g t xs := h.fr (Fr.alloc1 w o) (by simp)
theorem RowAt.cell (h : RowAt w g t xs) (i : Nat) : w.cell? ⟨g, i, none⟩ = xs[i]? := by
  unfold RowAt at h; simp [World.cell?, h]
theorem RowAt.frozen (h : RowAt w g t xs) (i : Nat) : w.frozen? ⟨g, i, none⟩ = false := by
  unfold RowAt at h; simp [World.frozen?, h]
theorem RowAt.set (h : RowAt w g t xs) (i : Nat) (v : Value) : RowAt (w.setCell ⟨g, i, none⟩ v) g t (xs.set i v) := by
  unfold RowAt at h ⊢
  simp [World.setCell, Array.getElem?_modify, h]
theorem RowAt.far (h : RowAt w g t xs) {p : Addr} (hp : g ≠ p.block) (v : Value) : RowAt (w.setCell p v) g t xs :=
  (Below.heap_setCell w p v g hp).trans h
theorem RowAt.rd (h : RowAt w g t xs) : Rd w (some ⟨g, 0, none⟩) xs := fun _ =>
  ⟨g, 0, rfl, h.lt, fun j u hu => by rw [Nat.zero_add, h.cell]; exact hu⟩
end

theorem set_flatMap4 {α : Type} (f : α → List Value) (hk : ∀ x, (f x).length = 4) (x : α) (v0 v1 v2 v3 : Value) (hx : f x = [v0, v1, v2, v3]) : ∀ (l : List α) (i : Nat), i < l.length →
    (((((l.flatMap f).set (i * 4) v0).set (i * 4 + 1) v1).set (i * 4 + 2) v2).set (i * 4 + 3) v3) = (l.set i x).flatMap f
  | [], _, h => by simp at h
  | y :: r, 0, _ => by
    have := hk y
    obtain ⟨a, b, c, d, e⟩ : ∃ a b c d, f y = [a, b, c, d] := by
      match f y, this with
      | [a, b, c, d], _ => exact ⟨a, b, c, d, rfl⟩
    simp [e, hx]
  | y :: r, i + 1, h => by
    have ih := set_flatMap4 f hk x v0 v1 v2 v3 hx r i (by simpa using h)
    have := hk y
    obtain ⟨a, b, c, d, e⟩ : ∃ a b c d, f y = [a, b, c, d] := by
      match f y, this with
      | [a, b, c, d], _ => exact ⟨a, b, c, d, rfl⟩
    have e0 : (i + 1) * 4 = i * 4 + 1 + 1 + 1 + 1 := by omega
    simp only [List.flatMap_cons, e, e0, List.set_cons_succ, List.cons_append, List.nil_append, List.cons.injEq, true_and]
    rw [← ih]

theorem set_fill {α : Type} (f : Nat → α) (z : α) (N a : Nat) (h : a < N) : ((List.range a).map f ++ List.replicate (N - a) z).set a (f a) = (List.range (a + 1)).map f ++ List.replicate (N - (a + 1)) z := by
  rw [List.set_append_right _ _ (by simp)]
  rw [show N - a = (N - (a + 1)) + 1 by omega, List.replicate_succ]
  simp [List.range_succ]

theorem madeCells_rows {α : Type} (f : α → List Value) (z0 : α) (k : Nat) (hk : (f z0).length = k) (hk0 : 0 < k) (n : Nat) : madeCells (f z0).toArray (n * k) = ((List.replicate n z0).flatMap f).toArray := by
  apply Array.ext_getElem?
  intro i
  simp only [madeCells, Array.getElem?_map, List.getElem?_toArray]
  by_cases hi : i < n * k
  · have hz : (f z0).toArray.size = k := by simpa using hk
    have hm : i % k < k := Nat.mod_lt _ hk0
    have hd : i / k < n := (Nat.div_lt_iff_lt_mul hk0).2 hi
    have e := flatMap_get (fun _ : Unit => f z0) k (fun _ => hk) (List.replicate n ()) (i / k) (i % k) () (by simp [hd]) hm
    have e2 : (List.replicate n z0).flatMap f = (List.replicate n ()).flatMap (fun _ => f z0) := by
      clear e hd hi
      induction n with
      | zero => rfl
      | succ n ih => simp [List.replicate_succ, ih]
    rw [e2, ← Nat.div_add_mod' i k, e]
    have hr : (Array.range (n * k))[i / k * k + i % k]? = some (i / k * k + i % k) := by
      rw [Nat.div_add_mod' i k]; simp [hi]
    rw [hr]
    simp only [Option.map_some, hz]
    have hi2 : i % k < (f z0).length := by omega
    rw [Nat.mul_add_mod_self_right, Nat.mod_mod]
    rw [List.getElem?_eq_getElem hi2]
    congr 1
    rw [getElem!_pos (f z0).toArray (i % k) (by simpa using hi2)]
    simp
  · have h1 : (Array.range (n * k))[i]? = none := by simp; omega
    have h2 : ((List.replicate n z0).flatMap f)[i]? = none := by
      rw [List.getElem?_eq_none]
      have : ((List.replicate n z0).flatMap f).length = n * k := by
        clear h1 hi
        induction n with
        | zero => simp
        | succ n ih => rw [List.replicate_succ, List.flatMap_cons, List.length_append, ih, hk, Nat.add_mul]; omega
      omega
    rw [h1, h2]; rfl

/-- 'make([]T, n)': n elements of zero value. -/
theorem run_make_rows {α : Type} {P : Program} (f : α → List Value) (z0 : α) (t e : TypeId) (k bytes : Nat) (ht : P.underlying t = some (.slice e))
    (hi : (P.info? e).map (fun i => (i.zero.map Value.cells, i.size, i.bytes)) = some (some (f z0).toArray, k, bytes)) (hk : (f z0).length = k) (hk0 : 0 < k)
    (l : Int) (n : Nat) (hl : l = n) (hb : bytes * n ≤ 281474976710656) (h63 : n ≤ 9223372036854775807) (w : World) :
    (Instr.makeSlice t (.int .i64 l) (.int .i64 l)).run P w = .ok (.slice (some ⟨w.heap.size, 0, none⟩) n n) (w.alloc (.cells ((List.replicate n z0).flatMap f).toArray e)) := by
  subst hl
  obtain ⟨i, h1⟩ : ∃ i, P.info? e = some i := by
    cases h : P.info? e with
    | none => rw [h] at hi; cases hi
    | some i => exact ⟨i, rfl⟩
  rw [h1] at hi
  simp only [Option.map_some, Option.some.injEq, Prod.mk.injEq] at hi
  obtain ⟨h2, h3, h4⟩ := hi
  obtain ⟨z, hz⟩ : ∃ z, i.zero = some z := by
    cases h : i.zero with
    | none => rw [h] at h2; cases h2
    | some z => exact ⟨z, rfl⟩
  rw [hz] at h2
  simp only [Option.map_some, Option.some.injEq] at h2
  have hbi : (i.bytes : Int) * (n : Int) ≤ 281474976710656 := by
    have h : ((i.bytes * n : Nat) : Int) ≤ 281474976710656 := by rw [h4]; omega
    rwa [Int.natCast_mul] at h
  have hr := run_make (P := P) w t e i z ht h1 hz .i64 .i64 n n (by omega) (by omega) hbi (by omega)
  simp only [Int.toNat_natCast, h2, h3] at hr
  rw [madeCells_rows f z0 k hk hk0] at hr
  exact hr
end Go.Proofs.YtjmgjkcjnjlpdaaGreatDoor

/-! ## A4 -/
namespace Go.Proofs.YtjmgjkcjnjlpdaaGreatDoor
open Go.RowKit

/-! ### rows of whole numbers -/
def ints (l : List Int) : List Value := l.map (.int .i64)
def nats (l : List Nat) : List Value := l.map fun (k : Nat) => Value.int .i64 (k : Int)
theorem ints_len (l : List Int) : (ints l).length = l.length := by simp [ints]
theorem nats_len (l : List Nat) : (nats l).length = l.length := by simp [nats]
theorem ints_get {l : List Int} {i : Nat} {v : Int} (h : l[i]? = some v) : (ints l)[i]? = some (.int .i64 v) := by simp [ints, h]
theorem nats_get {l : List Nat} {i : Nat} {v : Nat} (h : l[i]? = some v) : (nats l)[i]? = some (.int .i64 (v : Int)) := by simp [nats, h]
theorem ints_set (l : List Int) (i : Nat) (v : Int) : (ints l).set i (.int .i64 v) = ints (l.set i v) := by simp [ints, List.map_set]
theorem nats_snoc (l : List Nat) (v : Nat) : nats l ++ [.int .i64 (v : Int)] = nats (l ++ [v]) := by simp [nats]
theorem ints_snoc (l : List Int) (v : Int) : ints l ++ [.int .i64 v] = ints (l ++ [v]) := by simp [ints]
theorem ints_replicate (n : Nat) (v : Int) : ints (List.replicate n v) = (List.replicate n v).flatMap (fun x => [.int .i64 x]) := by
  induction n with
  | zero => rfl
  | succ n ih => simp only [List.replicate_succ, List.flatMap_cons, ← ih]; rfl

theorem run_make_ints {P : Program} (t e : TypeId) (ht : P.underlying t = some (.slice e))
    (hi : (P.info? e).map (fun i => (i.zero.map Value.cells, i.size, i.bytes)) = some (some #[.int .i64 0], 1, 8))
    (l : Int) (n : Nat) (hl : l = n) (hb : 8 * n ≤ 281474976710656) (w : World) :
    (Instr.makeSlice t (.int .i64 l) (.int .i64 l)).run P w = .ok (.slice (some ⟨w.heap.size, 0, none⟩) n n) (w.alloc (.cells (ints (List.replicate n 0)).toArray e)) := by
  rw [ints_replicate]
  exact run_make_rows (fun x : Int => [.int .i64 x]) 0 t e 1 8 ht hi rfl (by omega) l n hl hb (by omega) w

/-! ### a slice of the call's own that grows -/
/-- The slice (A, n, cap) of elements of k cells owns its row, in a block from base on (or is nil): its elements' cells are xs. -/
def OwnR (w : World) (base : Nat) (e : TypeId) (k : Nat) (A : Option Addr) (n cap : Nat) (xs : List Value) : Prop := w.ownsRow base e k (.slice A n cap) n xs

section
variable {w w' : World} {base : Nat} {e : TypeId} {k : Nat} {A : Option Addr} {n cap : Nat} {xs : List Value} {S : List Nat}
theorem OwnR.nil (w : World) (base : Nat) (e : TypeId) (k : Nat) : OwnR w base e k none 0 0 [] := World.ownsRow_nil w base e k
theorem OwnR.of_row {g : Nat} (h : RowAt w g e xs) (hb : base ≤ g) (hl : xs.length = n * k) (hn : n ≤ maxLen) : OwnR w base e k (some ⟨g, 0, none⟩) n n xs :=
  ⟨hl, .inr ⟨g, n, xs.toArray, rfl, hb, h, Nat.le_refl _, hn, by simp [hl], by simp [← hl]⟩⟩
theorem OwnR.addr (h : OwnR w base e k A n cap xs) : ∀ a, A = some a → base ≤ a.block ∧ a.block < w.heap.size := by
  rintro a rfl
  rcases h.2 with ⟨h1, _⟩ | ⟨g, c, cur, h1, h2, h3, _⟩
  · cases h1
  · cases h1; exact ⟨h2, (Array.getElem?_eq_some_iff.1 h3).1⟩
theorem OwnR.form (h : OwnR w base e k A n cap xs) : (A = none ∧ n = 0 ∧ cap = 0 ∧ xs = []) ∨ ∃ g, A = some ⟨g, 0, none⟩ := by
  rcases h.2 with ⟨h1, h2⟩ | ⟨g, c, cur, h1, h2, h3, _⟩
  · cases h1; exact .inl ⟨rfl, h2, rfl, List.eq_nil_of_length_eq_zero (by simpa using h.1)⟩
  · cases h1; exact .inr ⟨g, rfl⟩
theorem OwnR.rd (h : OwnR w base e k A n cap xs) : Rd w A xs := by
  intro hx
  rcases h.2 with ⟨_, h2⟩ | ⟨g, c, cur, h1, h2, h3, _, _, _, ht⟩
  · subst h2; exact absurd (List.eq_nil_of_length_eq_zero (by simpa using h.1)) hx
  · cases h1
    refine ⟨g, 0, rfl, (Array.getElem?_eq_some_iff.1 h3).1, fun j u hu => ?_⟩
    rw [Nat.zero_add]
    have : cur[j]? = some u := by
      rw [← ht] at hu
      have hj := (List.getElem?_eq_some_iff.1 hu).1
      rw [List.length_take] at hj
      rw [List.getElem?_take_of_lt (by omega)] at hu
      simpa using hu
    simp [World.cell?, h3, this]
theorem OwnR.cellAt {g : Nat} (h : OwnR w base e k (some ⟨g, 0, none⟩) n cap xs) {i : Nat} {u : Value} (hu : xs[i]? = some u) : w.cell? ⟨g, i, none⟩ = some u := by
  obtain ⟨b, off, e, _, hc⟩ := h.rd (by intro h0; rw [h0] at hu; simp at hu)
  cases e
  have := hc i u hu
  rwa [Nat.zero_add] at this
theorem OwnR.len (h : OwnR w base e k A n cap xs) : xs.length = n * k := h.1
theorem OwnR.fr (h : OwnR w base e k A n cap xs) (hf : Fr S w w') (hn : ∀ a, A = some a → a.block ∉ S) : OwnR w' base e k A n cap xs := by
  refine ⟨h.1, ?_⟩
  rcases h.2 with h1 | ⟨g, c, cur, h1, h2, h3, h4⟩
  · exact .inl h1
  · cases h1
    exact .inr ⟨g, cap, cur, rfl, h2, hf.heap h3 (hn _ rfl), h4⟩
theorem OwnR.alloc (h : OwnR w base e k A n cap xs) (o : Obj) : OwnR (w.alloc o) base e k A n cap xs := h.fr (Fr.alloc1 w o) (by simp)
theorem OwnR.drew (h : OwnR w base e k A n cap xs) : OwnR w.drew base e k A n cap xs := h
theorem OwnR.setCell (h : OwnR w base e k A n cap xs) {p : Addr} (v : Value) (hn : ∀ a, A = some a → a.block ≠ p.block) : OwnR (w.setCell p v) base e k A n cap xs :=
  h.fr (S := [p.block]) ((Fr.refl _ _).setCell (.inl (by simp)) _) (fun a ha => by simpa using hn a ha)
end

/-- where a grown slice lies: where it lay, or in the block that was new -/
def Lies (w : World) (A A' : Option Addr) : Prop := ∀ a', A' = some a' → (∃ a, A = some a ∧ a'.block = a.block) ∨ a'.block = w.heap.size

theorem Lies.ne {w : World} {A A' : Option Addr} (h : Lies w A A') {g : Nat} (hA : ∀ a, A = some a → a.block ≠ g) (hg : g < w.heap.size) : ∀ a', A' = some a' → a'.block ≠ g := fun a' ha => by
  rcases h a' ha with ⟨a, h1, h2⟩ | h1
  · rw [h2]; exact hA a h1
  · omega

theorem RowAt.new' (w : World) (t : TypeId) (xs : List Value) (g : Nat) (hg : g = w.heap.size) : RowAt (w.alloc (.cells xs.toArray t)) g t xs := by
  subst hg; exact RowAt.new w t xs

def ablocks (A : Option Addr) : List Nat := (A.map (·.block)).toList
theorem mem_ablocks {A : Option Addr} {i : Nat} : i ∈ ablocks A ↔ ∃ a, A = some a ∧ a.block = i := by
  cases A <;> simp [ablocks, eq_comm]

section
variable {P : Program} {ops : Array Oper} {rest : List Oper} {o : Oper} {a : Act} {Q : Exit → Act → World → Prop}

/-- 'append(s, x)', x one element, which lies in a row of its own. -/
theorem wpList_append1 (w : World) (hgd : o.guard = none) (s x : Operand) (t : TypeId) (ho : o.op = .call { callee := .builtin .append, args := #[s, x], argTypes := #[t, t] })
    (base : Nat) (e : TypeId) (k bytes : Nat) (z : Array Value) (ht : P.underlying t = some (.slice e)) (hi : (P.info? e).map (fun i => (i.zero.map Value.cells, i.size, i.bytes)) = some (some z, k, bytes)) (hz : z.size = k) (hk : 0 < k)
    (A : Option Addr) (n cap : Nat) (xs : List Value) (hs : a.eval s = .slice A n cap) (hown : OwnR w base e k A n cap xs)
    (g : Nat) (news : List Value) (hx : a.eval x = .slice (some ⟨g, 0, none⟩) 1 1) (hl : news.length = k) (hnews : RowAt w g e news) (h1 : ∀ u ∈ news, u.oneCell' = true)
    (hb : (n + 1) * bytes ≤ 140737488355328) (h63 : n < 9223372036854775807) (hbase : base ≤ w.heap.size)
    (h : ∀ A' cap' w', OwnR w' base e k A' (n + 1) cap' (xs ++ news) → Fr (ablocks A) w w' → Lies w A A' → wpList P ops Q rest (a.put o.dst (.slice A' (n + 1) cap')) w') :
    wpList P ops Q (o :: rest) a w := by
  obtain ⟨i, h2⟩ : ∃ i, P.info? e = some i := by
    cases h : P.info? e with
    | none => rw [h] at hi; cases hi
    | some i => exact ⟨i, rfl⟩
  rw [h2] at hi
  simp only [Option.map_some, Option.some.injEq, Prod.mk.injEq] at hi
  obtain ⟨h3, h4, h5⟩ := hi
  obtain ⟨zv, hzv⟩ : ∃ z, i.zero = some z := by
    cases h : i.zero with
    | none => rw [h] at h3; cases h3
    | some z => exact ⟨z, rfl⟩
  rw [hzv] at h3
  simp only [Option.map_some, Option.some.injEq] at h3
  refine wpList_append_own_at w hgd s x t ho base e i zv k bytes ht h2 hzv h4 h5 (by rw [h3, hz]) hk (.slice A n cap) n xs hs hown ⟨g, 0, none⟩ 1 1 news hx (by omega) ?_ h1 (by unfold maxLen; omega) hb hbase ?_
  · intro j u hu
    have := hnews.cell j
    by_cases hj : j = 0
    · subst hj; simp only [Addr.add, if_true]; rw [this]; exact hu
    · simp only [Addr.add, if_neg hj, Nat.zero_add]; rw [this]; exact hu
  · intro v' w' hown' hgrow hnil hat
    have hv' : ∃ A' cap', v' = .slice A' (n + 1) cap' := by
      rcases hown'.2 with ⟨h1, h2⟩ | ⟨g, c, cur, h1, _⟩
      · omega
      · exact ⟨_, _, h1⟩
    obtain ⟨A', cap', rfl⟩ := hv'
    refine h A' cap' w' hown' ?_ ?_
    · refine (Fr.refl _ w).grown hgrow ?_
      intro i hi
      refine .inl (mem_ablocks.2 ?_)
      cases A with
      | none => cases hi
      | some a => exact ⟨a, rfl, by simpa [Value.ownBlock] using hi⟩
    · rintro a' rfl
      rcases hat with hat | hat
      · cases A with
        | none => simp [Value.ownBlock] at hat
        | some a => exact .inl ⟨a, rfl, by simpa [Value.ownBlock] using hat⟩
      · exact .inr (by simpa [Value.ownBlock] using hat)
end
end Go.Proofs.YtjmgjkcjnjlpdaaGreatDoor

/-! ## A5 -/
namespace Go.Proofs.YtjmgjkcjnjlpdaaGreatDoor
open Go.RowKit

/-! ### the wide fence asks nothing -/
@[go_sem] theorem wide_fn (f : FuncId) : Fence.wide.fn f = True := eq_true trivial
@[go_sem] theorem wide_depth : Fence.wide.depth = none := rfl
@[go_sem] theorem wideRound_fn (l : Nat) (f : FuncId) : (Fence.wide.inRound l).fn f = True := eq_true trivial
@[go_sem] theorem wideRound_depth (l : Nat) : (Fence.wide.inRound l).depth = none := rfl

/-! ### the laws of A1, A4 inside a fence -/
section
variable {F : Fence} {nF : Nat} {P : Program} {ops : Array Oper} {rest : List Oper} {o : Oper} {a : Act} {Q : Exit → Act → World → Prop}

theorem wpListIn_lookup_at {t k e : TypeId} {K V : Type} [DecidableEq K] {ek : K → Value} {ev : V → Value} {z : Value} {b : Nat} {kvs : List (K × V)} (w : World)
    (hg : o.guard = none) (m x : Operand) (c : Bool) (T : MapTy P t k e ek ev z) (hop : o.op = Op.lookup t m x c) (hmap : MapAt w b ek ev kvs) (key : K)
    (hm : a.eval m = .map (some b)) (hx : a.eval x = ek key)
    (hK : wpListIn F nF P ops Q rest (a.put o.dst (if c then .tuple #[((aget kvs key).map ev).getD z, .bool (aget kvs key).isSome] else ((aget kvs key).map ev).getD z)) w) :
    wpListIn F nF P ops Q (o :: rest) a w := by
  refine wpListIn_plain hg fun K' hK' => ?_
  have hrun := hmap.run_lookup T key c
  unfold Oper.wpIn
  refine ⟨by simp [Oper.about, hop], ?_⟩
  rw [Oper.semAt_plain F _ _ (by rw [hop]; intro c hc'; cases hc')]
  simp only [execOp, hop, hm, hx]
  simp only [Sem.run_bind, hrun, Result.andThen, Sem.run_pure]
  simp only [Oper.uponIn]
  exact hK' _ _ hK

theorem wpListIn_update_at {t k e : TypeId} {K V : Type} [DecidableEq K] {ek : K → Value} {ev : V → Value} {z : Value} {b : Nat} {kvs : List (K × V)} (w : World)
    (hg : o.guard = none) (m x v : Operand) (T : MapTy P t k e ek ev z) (hop : o.op = Op.mapUpdate t m x v) (hmap : MapAt w b ek ev kvs) (key : K) (val : V)
    (hm : a.eval m = .map (some b)) (hx : a.eval x = ek key) (hv : a.eval v = ev val)
    (hK : ∀ w', MapAt w' b ek ev (aset kvs key val) → w.grownBy w' (some b) → w'.heap.size = w.heap.size → wpListIn F nF P ops Q rest (a.put o.dst undef) w') :
    wpListIn F nF P ops Q (o :: rest) a w := by
  refine wpListIn_plain hg fun K' hK' => ?_
  obtain ⟨w', hrun, h1, h2, h3⟩ := hmap.run_update T key val
  unfold Oper.wpIn
  refine ⟨by simp [Oper.about, hop], ?_⟩
  rw [Oper.semAt_plain F _ _ (by rw [hop]; intro c hc'; cases hc')]
  simp [execOp, hop, hm, hx, hv, hrun, Result.andThen]
  exact hK' _ _ (hK w' h1 h2 h3)

theorem wpListIn_append1 (w : World) (hgd : o.guard = none) (s x : Operand) (t : TypeId) (ho : o.op = .call { callee := .builtin .append, args := #[s, x], argTypes := #[t, t] })
    (base : Nat) (e : TypeId) (k bytes : Nat) (z : Array Value) (ht : P.underlying t = some (.slice e)) (hi : (P.info? e).map (fun i => (i.zero.map Value.cells, i.size, i.bytes)) = some (some z, k, bytes)) (hz : z.size = k) (hk : 0 < k)
    (A : Option Addr) (n cap : Nat) (xs : List Value) (hs : a.eval s = .slice A n cap) (hown : OwnR w base e k A n cap xs)
    (g : Nat) (news : List Value) (hx : a.eval x = .slice (some ⟨g, 0, none⟩) 1 1) (hl : news.length = k) (hnews : RowAt w g e news) (h1 : ∀ u ∈ news, u.oneCell' = true)
    (hb : (n + 1) * bytes ≤ 140737488355328) (h63 : n < 9223372036854775807) (hbase : base ≤ w.heap.size)
    (h : ∀ A' cap' w', OwnR w' base e k A' (n + 1) cap' (xs ++ news) → Fr (ablocks A) w w' → Lies w A A' → wpListIn F nF P ops Q rest (a.put o.dst (.slice A' (n + 1) cap')) w') :
    wpListIn F nF P ops Q (o :: rest) a w := by
  obtain ⟨i, h2⟩ : ∃ i, P.info? e = some i := by
    cases h : P.info? e with
    | none => rw [h] at hi; cases hi
    | some i => exact ⟨i, rfl⟩
  rw [h2] at hi
  simp only [Option.map_some, Option.some.injEq, Prod.mk.injEq] at hi
  obtain ⟨h3, h4, h5⟩ := hi
  obtain ⟨zv, hzv⟩ : ∃ z, i.zero = some z := by
    cases h : i.zero with
    | none => rw [h] at h3; cases h3
    | some z => exact ⟨z, rfl⟩
  rw [hzv] at h3
  simp only [Option.map_some, Option.some.injEq] at h3
  refine wpListIn_plain hgd fun K hK => ?_
  have hn : ∀ j u, news[j]? = some u → w.cell? ((⟨g, 0, none⟩ : Addr).add j) = some u := by
    intro j u hu
    have := hnews.cell j
    by_cases hj : j = 0
    · subst hj; simp only [Addr.add, if_true]; rw [this]; exact hu
    · simp only [Addr.add, if_neg hj, Nat.zero_add]; rw [this]; exact hu
  obtain ⟨v', w', hr, hown', hgrow, hnil, hat⟩ := run_append_own_at (P := P) w base t o.type e i zv k bytes ht h2 hzv h4 h5 (by rw [h3, hz]) hk (.slice A n cap) n xs hown ⟨g, 0, none⟩ 1 1 news (by omega) hn h1 (by unfold maxLen; omega) hb hbase
  unfold Oper.wpIn
  refine ⟨by simp [Oper.about, ho, resolve, Target.leads], ?_⟩
  rw [Oper.semAt_plain F _ _ (by rw [ho]; intro c hc'; cases hc')]
  unfold execOp
  simp only [ho, resolve, invoke, builtin, Sem.run_bind, Sem.run_pure, Result.andThen_ok, List.map_toArray, List.map_cons, List.map_nil, hs, hx, hr]
  have hv' : ∃ A' cap', v' = .slice A' (n + 1) cap' := by
    rcases hown'.2 with ⟨h1, h2⟩ | ⟨g, c, cur, h1, _⟩
    · omega
    · exact ⟨_, _, h1⟩
  obtain ⟨A', cap', rfl⟩ := hv'
  refine hK _ _ (h A' cap' w' hown' ?_ ?_)
  · refine (Fr.refl _ w).grown hgrow ?_
    intro i hi
    refine .inl (mem_ablocks.2 ?_)
    cases A with
    | none => cases hi
    | some a => exact ⟨a, rfl, by simpa [Value.ownBlock] using hi⟩
  · rintro a' rfl
    rcases hat with hat | hat
    · cases A with
      | none => simp [Value.ownBlock] at hat
      | some a => exact .inl ⟨a, rfl, by simpa [Value.ownBlock] using hat⟩
    · exact .inr (by simpa [Value.ownBlock] using hat)
end
end Go.Proofs.YtjmgjkcjnjlpdaaGreatDoor

/-! ## A6 -/
namespace Go.Proofs.YtjmgjkcjnjlpdaaGreatDoor
open Go.RowKit

/-! ### a range over a function: the invariant with its footprint (the blocks that it speaks of) -/
def Footed {β : Type} (B : Nat) (J : β → List Nat → World → Prop) : Prop := ∀ s O S W W', J s O W → Fr S W W' → (∀ k ∈ O, k ∉ S) → (∀ k ∈ S, B ≤ k) → J s O W'

/-- O', the footprint behind a step from W to W': of O, or new. -/
def NewIn (O O' : List Nat) (W W' : World) : Prop := (∀ k ∈ O', k ∈ O ∨ W.heap.size ≤ k) ∧ ∀ k ∈ O', k < W'.heap.size

/-- The iterator gf (with what it has captured, lb) gives xs, one after the other, to whatever loop whose own blocks are none of Pr's. -/
def IterF {α : Type} (P : Program) (n gf : Nat) (lb : Array Value) (encs : α → Array Value) (xs : List α) (Pr : Nat → Prop) (w : World) : Prop :=
  ∀ (l : Nat) (J Jx : List α → List Nat → World → Prop) (W : World) (O0 : List Nat), Fr [] w W → Footed W.heap.size J → Footed W.heap.size Jx → (∀ k ∈ O0, k < W.heap.size ∧ ¬ Pr k) →
    (∀ pre x W1 O, J pre O W1 → (pre ++ [x]) <+: xs → (∀ k ∈ O, k < W1.heap.size) → YieldAt Fence.wide (n - 1) P l (encs x) W1 fun e W' =>
      (e = .returned (.bool true) ∧ Fr O W1 W' ∧ ∃ O', J (pre ++ [x]) O' W' ∧ NewIn O O' W1 W') ∨ (e = .returned (.bool false) ∧ Fr O W1 W' ∧ ∃ O', Jx (pre ++ [x]) O' W' ∧ NewIn O O' W1 W')) →
    J [] O0 W →
    CallsIn Fence.wide n P gf (#[.func (.yield l) #[] #[]] ++ lb) W fun e W' => (∃ v, e = .returned v) ∧ Fr O0 W W' ∧ ∃ O', NewIn O0 O' W W' ∧ (J xs O' W' ∨ ∃ pre, pre <+: xs ∧ Jx pre O' W')

/-- how a loop's body may be left: W: where it began -/
def postFoot {α : Type} (I : List α → List Nat → World → Prop) (Ix : Code → List α → List Nat → World → Prop) (O : List Nat) (xs : List α) (W : World) : Exit → Act → World → Prop
  | .normal, _, W' => Fr O W W' ∧ ∃ O', I xs O' W' ∧ NewIn O O' W W'
  | .ret, _, W' => Fr O W W' ∧ ∃ O', Ix .ret xs O' W' ∧ NewIn O O' W W'
  | .exit id, _, W' => Fr O W W' ∧ ∃ O', Ix (.exit id) xs O' W' ∧ NewIn O O' W W'
  | .goto t, _, W' => Fr O W W' ∧ ∃ O', Ix (.goto t) xs O' W' ∧ NewIn O O' W W'
  | .panic _, _, _ => False
  | .outgrown, _, _ => False

theorem Fr.put {S : List Nat} {a b : World} (h : Fr S a b) {l : Nat} (hl : l ∈ S ∨ a.heap.size ≤ l) (o : Obj) : Fr S a (b.putObj l o) :=
  h.trans (S' := [l]) ⟨rfl, rfl, rfl, by simp, fun k _ hn => World.putObj_heap_other (by simpa using hn)⟩ (by simpa using hl)

theorem Fr.loop {S : List Nat} {w w' : World} (h : Fr S w w') {l : Nat} {o : Obj} (hl : w.heap[l]? = some o) (hn : l ∉ S) : w'.heap[l]? = some o := h.heap hl hn

variable {P : Program}

theorem wpIn_rangeFunc_foot {α : Type} {g : Operand} {ps : Array Tmp} {assign body : Code} {Q : Exit → Act → World → Prop} {a : Act} {w : World} {n : Nat}
    {gf : Nat} {lb : Array Value} (hg : a.eval g = .func (.func gf) #[] lb) (eg : ∀ args w, (callFunc gf args).run P w = .ok (.enter gf args) w)
    {encs : α → Array Value} {xs : List α} (hps : ∀ x, (encs x).size = ps.size) {Pr : Nat → Prop} (hit : IterF P (n - 1) gf lb encs xs Pr w) (hPr : ∀ k, Pr k → k < w.heap.size)
    (I : List α → List Nat → World → Prop) (Ix : Code → List α → List Nat → World → Prop) (hI : Footed w.heap.size I) (hIx : ∀ c, Footed w.heap.size (Ix c))
    (O0 : List Nat) (h0 : I [] O0 w) (hO0 : ∀ k ∈ O0, k < w.heap.size ∧ ¬ Pr k)
    (hbody : ∀ (l : Nat) (pre : List α) (x : α) (W : World) (O : List Nat), I pre O W → (pre ++ [x]) <+: xs → l < W.heap.size → Fr O0 w W → (∀ k ∈ O, k < W.heap.size) → (∀ k ∈ O, k ∈ O0 ∨ w.heap.size ≤ k) →
      assign.wpIn (Fence.wide.inRound l) (n - 1 - 1) P (Exit.then (fun a₁ W1 => Fr [] W W1 ∧ ∀ W2, Fr [l] W1 W2 → l ∉ O → W2.heap.size = W1.heap.size → I pre O W2 → body.wpIn (Fence.wide.inRound l) (n - 1 - 1) P (postFoot I Ix O (pre ++ [x]) W2) a₁ W2) (fun _ _ _ => False))
        { tmps := (ps.zip (encs x)).foldl (fun t (p, v) => t.setIfInBounds p v) a.tmps, defers := [] } W)
    (hdone : ∀ (D : Nat) (O : List Nat) (W : World), w.heap.size ≤ D → D < W.heap.size → I xs O W → Fr O0 w W → (∀ k ∈ O, k ∈ O0 ∨ w.heap.size ≤ k) → D ∉ O → W.heap[D]? = some (.deferred (some [])) → Q .normal { a with defers := { target := .collected D, args := #[] } :: a.defers } W)
    (hstop : ∀ (D : Nat) (c : Code) (pre : List α) (O : List Nat) (W : World), w.heap.size ≤ D → D < W.heap.size → pre <+: xs → Ix c pre O W → Fr O0 w W → (∀ k ∈ O, k ∈ O0 ∨ w.heap.size ≤ k) → D ∉ O → W.heap[D]? = some (.deferred (some [])) →
      c.wpIn Fence.wide n P Q { a with defers := { target := .collected D, args := #[] } :: a.defers } W) :
    (Code.rangeFunc g ps assign body).wpIn Fence.wide n P Q a w := by
  refine wpIn_rangeFunc ?_
  intro fn hfn
  show ∃ l mark w₁ d w₁' f args w₂, (Instr.enterLoop fn a.tmps ps assign body none).run P w = .ok (l, mark) w₁ ∧ _
  obtain ⟨rec, hrec⟩ : ∃ rec : LoopState → Option Code → Loop, rec = fun st pe => { state := st, pending := pe, fn, tmps := a.tmps, params := ps, assign, body, defers := w.heap.size } := ⟨_, rfl⟩
  obtain ⟨W1, hW1⟩ : ∃ W1, (w.alloc (.deferred (some []))).alloc (.loop (rec .ready none)) = W1 := ⟨_, rfl⟩
  have hL1 : W1.heap[w.heap.size + 1]? = some (.loop (rec .ready none)) := by
    rw [← hW1]; have := World.alloc_heap_new (w.alloc (.deferred (some []))) (.loop (rec .ready none)); rwa [World.size_alloc] at this
  have hK1 : W1.heap[w.heap.size]? = some (.deferred (some [])) := by
    rw [← hW1]; exact (Below.heap_alloc _ _ _ (by simp)).trans (World.alloc_heap_new w _)
  have hf1 : Fr [] w W1 := by rw [← hW1]; exact ((Fr.refl _ _).alloc _).alloc _
  have hs1 : W1.heap.size = w.heap.size + 2 := by rw [← hW1]; simp
  have hI1 : I [] O0 W1 := hI [] O0 [] w W1 h0 hf1 (by simp) (by simp)
  refine ⟨w.heap.size + 1, [{ target := .collected w.heap.size, args := #[] }], W1, { target := .fn (.func gf) lb, args := #[.func (.yield (w.heap.size + 1)) #[] #[]] }, W1, gf,
    #[.func (.yield (w.heap.size + 1)) #[] #[]] ++ lb, W1, ?_, ?_, ?_, ?_, ?_, ?_⟩
  · rw [← hW1, hrec]; exact run_enterLoop_outer _ _ _ _ _
  · simp only [resolve, hg]
    simp [go_sem]
  · intro f' hf'; trivial
  · simp [invoke, go_sem, eg]
  · intro h; cases h
  · -- the iterator's contract, at the invariant with the two facts of book-keeping beside it
    let J : List α → List Nat → World → Prop := fun pre O W => ∃ O', O = (w.heap.size + 1) :: w.heap.size :: O' ∧ w.heap.size + 1 ∉ O' ∧ w.heap.size ∉ O' ∧ I pre O' W ∧ (∀ k ∈ O', k < W.heap.size) ∧ Fr O0 w W ∧ (∀ k ∈ O', k ∈ O0 ∨ w.heap.size ≤ k) ∧
      W.heap[w.heap.size + 1]? = some (.loop (rec .ready none)) ∧ W.heap[w.heap.size]? = some (.deferred (some []))
    let Jx : List α → List Nat → World → Prop := fun pre O W => ∃ c O', O = (w.heap.size + 1) :: w.heap.size :: O' ∧ w.heap.size + 1 ∉ O' ∧ w.heap.size ∉ O' ∧ Ix c pre O' W ∧ (∀ k ∈ O', k < W.heap.size) ∧ Fr O0 w W ∧ (∀ k ∈ O', k ∈ O0 ∨ w.heap.size ≤ k) ∧
      W.heap[w.heap.size + 1]? = some (.loop (rec .done (some c))) ∧ W.heap[w.heap.size]? = some (.deferred (some []))
    have hO0' : w.heap.size + 1 ∉ O0 ∧ w.heap.size ∉ O0 := ⟨fun h => by have := (hO0 _ h).1; omega, fun h => by have := (hO0 _ h).1; omega⟩
    refine (hit (w.heap.size + 1) J Jx W1 ((w.heap.size + 1) :: w.heap.size :: O0) hf1 ?_ ?_ ?_ ?_ ?_).mono ?_
    · rintro pre O S W W' ⟨O', rfl, h1, h2, h3, h4, h5, h6, h7, h8⟩ hf hS hB
      have hl : w.heap.size + 1 ∉ S := hS _ (by simp)
      have hd : w.heap.size ∉ S := hS _ (by simp)
      exact ⟨O', rfl, h1, h2, hI _ _ _ _ _ h3 hf (fun k hk => hS k (by simp [hk])) (fun k hk => by have := hB k hk; omega), fun k hk => Nat.lt_of_lt_of_le (h4 k hk) hf.size,
        h5.trans hf (fun k hk => .inr (by have := hB k hk; omega)), h6, hf.heap h7 hl, hf.heap h8 hd⟩
    · rintro pre O S W W' ⟨c, O', rfl, h1, h2, h3, h4, h5, h6, h7, h8⟩ hf hS hB
      have hl : w.heap.size + 1 ∉ S := hS _ (by simp)
      have hd : w.heap.size ∉ S := hS _ (by simp)
      exact ⟨c, O', rfl, h1, h2, hIx c _ _ _ _ _ h3 hf (fun k hk => hS k (by simp [hk])) (fun k hk => by have := hB k hk; omega), fun k hk => Nat.lt_of_lt_of_le (h4 k hk) hf.size,
        h5.trans hf (fun k hk => .inr (by have := hB k hk; omega)), h6, hf.heap h7 hl, hf.heap h8 hd⟩
    · intro k hk
      simp only [List.mem_cons] at hk
      rcases hk with rfl | rfl | hk
      · exact ⟨by omega, fun h => by have := hPr _ h; omega⟩
      · exact ⟨by omega, fun h => by have := hPr _ h; omega⟩
      · exact ⟨by have := (hO0 k hk).1; omega, (hO0 k hk).2⟩
    · -- one round
      rintro pre x W O ⟨O', rfl, h1, h2, h3, h4, h5, h6, h7, h8⟩ hpre hOlt
      have hy := run_yield (P := P) (args := encs x) h7 (by rw [hrec]; exact hps x)
      rw [hrec] at hy
      refine ⟨fn, _, assign, body, hy, roundIn_of_wpIn hfn (wpIn_mono (hbody (w.heap.size + 1) pre x W O' h3 hpre (Array.getElem?_eq_some_iff.1 h7).1 h5 h4 h6) ?_)⟩
      rintro e a1 Wa hp
      cases e with
      | normal =>
        obtain ⟨hfa, hb⟩ := hp
        have hla := hfa.heap h7 (by simp)
        have hka := hfa.heap h8 (by simp)
        have hlt := (Array.getElem?_eq_some_iff.1 hla).1
        refine ⟨_, run_beginRound hla (by rw [hrec]), ?_⟩
        obtain ⟨Wb, hWb⟩ : ∃ Wb, Wa.putObj (w.heap.size + 1) (.loop { rec .ready none with state := .busy }) = Wb := ⟨_, rfl⟩
        have hfb : Fr [w.heap.size + 1] Wa Wb := by rw [← hWb]; exact (Fr.refl _ _).put (.inl (by simp)) _
        have hsb : Wb.heap.size = Wa.heap.size := by rw [← hWb]; simp
        have hlb : Wb.heap[w.heap.size + 1]? = some (.loop { rec .ready none with state := .busy }) := by rw [← hWb]; exact World.putObj_heap_same hlt
        have hkb : Wb.heap[w.heap.size]? = some (.deferred (some [])) := hfb.heap hka (by simp)
        have hIa : I pre O' Wa := hI _ _ _ _ _ h3 hfa (by simp) (by simp)
        have hIb : I pre O' Wb := hI _ _ _ _ _ hIa hfb (fun k hk h => h1 (by simp at h; rwa [h] at hk)) (fun k hk => by simp at hk; omega)
        rw [hWb]
        refine wpIn_mono (hb Wb hfb h1 hsb hIb) ?_
        have fin : ∀ (jump : Option Code) (W3 : World), Fr O' Wb W3 →
            (Instr.endRound (w.heap.size + 1) jump).run P W3 = .ok (.bool jump.isNone) (W3.putObj (w.heap.size + 1) (.loop (rec (if jump.isNone then .ready else .done) jump))) ∧
            (W3.putObj (w.heap.size + 1) (.loop (rec (if jump.isNone then .ready else .done) jump))).heap[w.heap.size + 1]? = some (.loop (rec (if jump.isNone then .ready else .done) jump)) ∧
            (W3.putObj (w.heap.size + 1) (.loop (rec (if jump.isNone then .ready else .done) jump))).heap[w.heap.size]? = some (.deferred (some [])) ∧
            Fr ((w.heap.size + 1) :: w.heap.size :: O') W (W3.putObj (w.heap.size + 1) (.loop (rec (if jump.isNone then .ready else .done) jump))) ∧
            Fr [w.heap.size + 1] W3 (W3.putObj (w.heap.size + 1) (.loop (rec (if jump.isNone then .ready else .done) jump))) := fun jump W3 hk3 => by
          have hl3 := hk3.heap hlb h1
          have := run_endRound (P := P) jump hl3
          rw [hrec] at this ⊢
          refine ⟨this, World.putObj_heap_same (Array.getElem?_eq_some_iff.1 hl3).1, (World.putObj_heap_other (by omega)).trans (hk3.heap hkb h2), ?_, (Fr.refl _ _).put (.inl (by simp)) _⟩
          refine Fr.put ?_ (.inl (by simp)) _
          refine ((hfa.weaken (S' := (w.heap.size + 1) :: w.heap.size :: O') (by simp)).trans hfb (by simp)).trans hk3 (fun k hk => .inl (by simp [hk]))
        have frd : ∀ W3, Fr O' Wb W3 → Fr O0 w W3 := fun W3 h => ((h5.then hfa).trans hfb (fun k hk => .inr (by simp at hk; omega))).trans h h6
        have szd : W.heap.size ≤ Wb.heap.size := by rw [hsb]; exact hfa.size
        -- what each way out owes
        have out : ∀ (jump : Option Code) (W3 : World) (X : List Nat → World → Prop), Footed w.heap.size (fun (_ : Unit) O W => X O W) → Fr O' Wb W3 → (∃ O2, X O2 W3 ∧ NewIn O' O2 Wb W3) →
            ∃ O2, X O2 (W3.putObj (w.heap.size + 1) (.loop (rec (if jump.isNone then .ready else .done) jump))) ∧ w.heap.size + 1 ∉ O2 ∧ w.heap.size ∉ O2 ∧ (∀ k ∈ O2, k < (W3.putObj (w.heap.size + 1) (.loop (rec (if jump.isNone then .ready else .done) jump))).heap.size) ∧
              (∀ k ∈ O2, k ∈ O0 ∨ w.heap.size ≤ k) ∧ (∀ k ∈ O2, k ∈ O' ∨ W.heap.size ≤ k) := by
          rintro jump W3 X hX hk3 ⟨O2, hx, hn1, hn2⟩
          have hWlt := (Array.getElem?_eq_some_iff.1 h7).1
          have m1 : w.heap.size + 1 ∉ O2 := fun hm => (hn1 _ hm).elim h1 (fun h => by omega)
          have m2 : w.heap.size ∉ O2 := fun hm => (hn1 _ hm).elim h2 (fun h => by omega)
          refine ⟨O2, hX () _ _ _ _ hx (fin jump W3 hk3).2.2.2.2 (fun k hk h => m1 (by simp at h; rwa [h] at hk)) (fun k hk => by simp at hk; omega), m1, m2, fun k hk => by have := hn2 k hk; simpa using this, ?_, ?_⟩
          · intro k hk
            rcases hn1 k hk with h | h
            · exact h6 k h
            · exact .inr (by omega)
          · intro k hk
            rcases hn1 k hk with h | h
            · exact .inl h
            · exact .inr (by omega)
        rintro e a3 W3 hp
        cases e with
        | normal =>
          obtain ⟨hk3, hi3⟩ := hp
          obtain ⟨hr, hl4, hk4, hf4, hf5⟩ := fin none W3 hk3
          obtain ⟨O2, q1, q2, q3, q4, q5, q6⟩ := out none W3 (I (pre ++ [x])) (fun _ => hI _) hk3 hi3
          refine ⟨_, _, hr, .inl ⟨rfl, hf4, (w.heap.size + 1) :: w.heap.size :: O2, ⟨O2, rfl, q2, q3, q1, q4, (frd _ hk3).trans hf5 (fun k hk => .inr (by simp at hk; omega)), q5, hl4, hk4⟩, ?_, ?_⟩⟩
          · intro k hk
            simp only [List.mem_cons] at hk ⊢
            rcases hk with h | h | h
            · exact .inl (.inl h)
            · exact .inl (.inr (.inl h))
            · exact (q6 k h).imp (fun h => .inr (.inr h)) (fun h => h)
          · intro k hk
            have hz := (Array.getElem?_eq_some_iff.1 hl4).1
            simp only [List.mem_cons] at hk
            rcases hk with rfl | rfl | h
            · exact hz
            · omega
            · exact q4 k h
        | ret =>
          obtain ⟨hk3, hi3⟩ := hp
          obtain ⟨hr, hl4, hk4, hf4, hf5⟩ := fin (some .ret) W3 hk3
          obtain ⟨O2, q1, q2, q3, q4, q5, q6⟩ := out (some .ret) W3 (Ix .ret (pre ++ [x])) (fun _ => hIx _ _) hk3 hi3
          refine ⟨_, _, hr, .inr ⟨rfl, hf4, (w.heap.size + 1) :: w.heap.size :: O2, ⟨.ret, O2, rfl, q2, q3, q1, q4, (frd _ hk3).trans hf5 (fun k hk => .inr (by simp at hk; omega)), q5, hl4, hk4⟩, ?_, ?_⟩⟩
          · intro k hk
            simp only [List.mem_cons] at hk ⊢
            rcases hk with h | h | h
            · exact .inl (.inl h)
            · exact .inl (.inr (.inl h))
            · exact (q6 k h).imp (fun h => .inr (.inr h)) (fun h => h)
          · intro k hk
            have hz := (Array.getElem?_eq_some_iff.1 hl4).1
            simp only [List.mem_cons] at hk
            rcases hk with rfl | rfl | h
            · exact hz
            · omega
            · exact q4 k h
        | exit id =>
          obtain ⟨hk3, hi3⟩ := hp
          obtain ⟨hr, hl4, hk4, hf4, hf5⟩ := fin (some (.exit id)) W3 hk3
          obtain ⟨O2, q1, q2, q3, q4, q5, q6⟩ := out (some (.exit id)) W3 (Ix (.exit id) (pre ++ [x])) (fun _ => hIx _ _) hk3 hi3
          refine ⟨_, _, hr, .inr ⟨rfl, hf4, (w.heap.size + 1) :: w.heap.size :: O2, ⟨.exit id, O2, rfl, q2, q3, q1, q4, (frd _ hk3).trans hf5 (fun k hk => .inr (by simp at hk; omega)), q5, hl4, hk4⟩, ?_, ?_⟩⟩
          · intro k hk
            simp only [List.mem_cons] at hk ⊢
            rcases hk with h | h | h
            · exact .inl (.inl h)
            · exact .inl (.inr (.inl h))
            · exact (q6 k h).imp (fun h => .inr (.inr h)) (fun h => h)
          · intro k hk
            have hz := (Array.getElem?_eq_some_iff.1 hl4).1
            simp only [List.mem_cons] at hk
            rcases hk with rfl | rfl | h
            · exact hz
            · omega
            · exact q4 k h
        | goto t =>
          obtain ⟨hk3, hi3⟩ := hp
          obtain ⟨hr, hl4, hk4, hf4, hf5⟩ := fin (some (.goto t)) W3 hk3
          obtain ⟨O2, q1, q2, q3, q4, q5, q6⟩ := out (some (.goto t)) W3 (Ix (.goto t) (pre ++ [x])) (fun _ => hIx _ _) hk3 hi3
          refine ⟨_, _, hr, .inr ⟨rfl, hf4, (w.heap.size + 1) :: w.heap.size :: O2, ⟨.goto t, O2, rfl, q2, q3, q1, q4, (frd _ hk3).trans hf5 (fun k hk => .inr (by simp at hk; omega)), q5, hl4, hk4⟩, ?_, ?_⟩⟩
          · intro k hk
            simp only [List.mem_cons] at hk ⊢
            rcases hk with h | h | h
            · exact .inl (.inl h)
            · exact .inl (.inr (.inl h))
            · exact (q6 k h).imp (fun h => .inr (.inr h)) (fun h => h)
          · intro k hk
            have hz := (Array.getElem?_eq_some_iff.1 hl4).1
            simp only [List.mem_cons] at hk
            rcases hk with rfl | rfl | h
            · exact hz
            · omega
            · exact q4 k h
        | panic ch => exact hp.elim
        | outgrown => exact hp.elim
      | exit id => exact hp.elim
      | goto t => exact hp.elim
      | ret => exact hp.elim
      | panic chain => exact hp.elim
      | outgrown => exact hp.elim
    · exact ⟨O0, rfl, fun h => by have := (hO0 _ h).1; omega, fun h => by have := (hO0 _ h).1; omega, hI1, fun k hk => by have := (hO0 _ hk).1; omega, hf1.weaken (by simp), fun k hk => .inl hk, hL1, hK1⟩
    · -- behind the iterator
      rintro e W2 ⟨⟨v, rfl⟩, hfr, O2, hnew, (⟨O', rfl, h1, h2, h3, h4, h5, h6, h7, h8⟩ | ⟨pre, hpre, c, O', rfl, h1, h2, h3, h4, h5, h6, h7, h8⟩)⟩
      · obtain ⟨o, hend⟩ : ∃ o, (Instr.endLoop (w.heap.size + 1)).run P W2 = .ok none (W2.putObj (w.heap.size + 1) o) := by
          have := run_endLoop (P := P) h7 (by rw [hrec]; simp)
          rw [show (rec .ready none).pending = none by rw [hrec]] at this
          exact ⟨_, this⟩
        have hf5 : Fr [w.heap.size + 1] W2 (W2.putObj (w.heap.size + 1) o) := (Fr.refl _ _).put (.inl (by simp)) _
        refine ⟨none, _, hend, hdone w.heap.size O' _ (Nat.le_refl _) ?_ ?_ ?_ h6 h2 ?_⟩
        · have := (Array.getElem?_eq_some_iff.1 h8).1; simpa using this
        · exact hI _ _ _ _ _ h3 hf5 (fun k hk h => h1 (by simp at h; rwa [h] at hk)) (fun k hk => by simp at hk; omega)
        · exact h5.trans hf5 (fun k hk => .inr (by simp at hk; omega))
        · exact (World.putObj_heap_other (by omega)).trans h8
      · obtain ⟨o, hend⟩ : ∃ o, (Instr.endLoop (w.heap.size + 1)).run P W2 = .ok (some c) (W2.putObj (w.heap.size + 1) o) := by
          have := run_endLoop (P := P) h7 (by rw [hrec]; simp)
          rw [show (rec .done (some c)).pending = some c by rw [hrec]] at this
          exact ⟨_, this⟩
        have hf5 : Fr [w.heap.size + 1] W2 (W2.putObj (w.heap.size + 1) o) := (Fr.refl _ _).put (.inl (by simp)) _
        refine ⟨some c, _, hend, hstop w.heap.size c pre O' _ (Nat.le_refl _) ?_ hpre ?_ ?_ h6 h2 ?_⟩
        · have := (Array.getElem?_eq_some_iff.1 h8).1; simpa using this
        · exact hIx c _ _ _ _ _ h3 hf5 (fun k hk h => h1 (by simp at h; rwa [h] at hk)) (fun k hk => by simp at hk; omega)
        · exact h5.trans hf5 (fun k hk => .inr (by simp at hk; omega))
        · exact (World.putObj_heap_other (by omega)).trans h8

/-! ### the way out of a function that has ranged over functions -/
/-- a mark of a loop over a function, whose block is open still -/
def Marks (N : Nat) (w : World) : List Deferred → Prop
  | [] => True
  | d :: ds => (∃ D, d = { target := .collected D, args := #[] } ∧ N ≤ D ∧ w.heap[D]? = some (.deferred (some [])) ∧ (∀ d' ∈ ds, d' ≠ d)) ∧ Marks N w ds

theorem Marks.fr {N : Nat} {w w' : World} {S : List Nat} : ∀ {ds : List Deferred}, Marks N w ds → Fr S w w' → (∀ d ∈ ds, ∃ D, d = { target := .collected D, args := #[] } ∧ D ∉ S) → Marks N w' ds
  | [], _, _, _ => trivial
  | d :: ds, ⟨⟨D, h1, h2, h3, h4⟩, h5⟩, hf, hS => by
    obtain ⟨D', h6, h7⟩ := hS d (by simp)
    have e : D = D' := by rw [h1] at h6; simpa using h6
    subst e
    exact ⟨⟨D, h1, h2, hf.heap h3 h7, h4⟩, Marks.fr h5 hf (fun d' hd => hS d' (by simp [hd]))⟩

/-- nothing has turned but blocks for deferred calls, from N on -/
structure Tk (N : Nat) (w w' : World) : Prop where
  os : w'.os = w.os
  tape : w'.tape = w.tape
  output : w'.output = w.output
  size : w'.heap.size = w.heap.size
  obj : ∀ k o, w.heap[k]? = some o → w'.heap[k]? = some o ∨ (N ≤ k ∧ ∃ d, o = .deferred d)

theorem Tk.refl (N : Nat) (w : World) : Tk N w w := ⟨rfl, rfl, rfl, rfl, fun _ _ h => .inl h⟩
theorem Tk.trans {N : Nat} {a b c : World} (h : Tk N a b) (k : Tk N b c) : Tk N a c :=
  ⟨k.os.trans h.os, k.tape.trans h.tape, k.output.trans h.output, k.size.trans h.size, fun i o ho => (h.obj i o ho).elim (fun h1 => k.obj i o h1) .inr⟩
theorem Tk.cell {N : Nat} {w w' : World} (h : Tk N w w') {a : Addr} {v : Value} (hc : w.cell? a = some v) : w'.cell? a = some v := by
  unfold World.cell? at hc ⊢
  cases ho : w.heap[a.block]? with
  | none => rw [ho] at hc; cases hc
  | some o =>
    rw [ho] at hc
    rcases h.obj _ _ ho with h1 | ⟨_, d, rfl⟩
    · rw [h1]; exact hc
    · cases hc
theorem Tk.rd {N : Nat} {w w' : World} (h : Tk N w w') {A : Option Addr} {xs : List Value} (hr : Rd w A xs) : Rd w' A xs := fun hx => by
  obtain ⟨b, off, e, hb, hc⟩ := hr hx
  exact ⟨b, off, e, by rw [h.size]; exact hb, fun j u hu => h.cell (hc j u hu)⟩
theorem Tk.fr {N : Nat} {w0 w w' : World} {S : List Nat} (h : Tk N w w') (hf : Fr S w0 w) (hN : w0.heap.size ≤ N) : Fr S w0 w' where
  os := h.os.trans hf.os
  tape := h.tape.trans hf.tape
  output := h.output.trans hf.output
  size := by rw [h.size]; exact hf.size
  block := fun k hk hn => by
    have h0 : w0.heap[k]? = some (w0.heap[k]'hk) := Array.getElem?_eq_getElem hk
    have h1 := (hf.block k hk hn).trans h0
    rcases h.obj _ _ h1 with h2 | ⟨h2, _⟩
    · rw [h2, h0]
    · omega

theorem leaves_marks {F : Fence} {n N : Nat} {fn : Func} {tmps : Array Value} {R : Ending → World → Prop} : ∀ {ds : List Deferred} {W : World}, Marks N W ds →
    (∀ W', Tk N W W' → LeavesIn F n P fn tmps R [] .returning W') → LeavesInM F n P fn tmps R ds .returning W
  | [], W, _, hR => hR W (Tk.refl _ _)
  | d :: ds, W, ⟨⟨D, h1, h2, h3, h4⟩, h5⟩, hR => by
    have hlt := (Array.getElem?_eq_some_iff.1 h3).1
    refine ⟨by simp, .inl ⟨D, _, by rw [h1], run_takeDeferred h3, leaves_marks (ds := ds) (h5.fr (S := [D]) ((Fr.refl _ _).put (.inl (by simp)) _) ?_) ?_⟩⟩
    · have hm : ∀ {ds : List Deferred}, Marks N W ds → ∀ d' ∈ ds, ∃ D, d' = { target := .collected D, args := #[] } := by
        intro ds
        induction ds with
        | nil => intro _ d' hd; simp at hd
        | cons d ds ih =>
          rintro ⟨⟨D, e1, _⟩, e2⟩ d' hd
          rcases List.mem_cons.1 hd with rfl | hd
          · exact ⟨D, e1⟩
          · exact ih e2 d' hd
      intro d' hd
      obtain ⟨D', e⟩ := hm h5 d' hd
      refine ⟨D', e, fun hk => h4 d' hd ?_⟩
      simp at hk
      rw [e, h1, hk]
    · intro W' ht
      have t1 : Tk N W (W.putObj D (.deferred none)) := ⟨rfl, rfl, rfl, by simp, fun k o ho => ?_⟩
      · exact hR W' (t1.trans ht)
      by_cases hk : k = D
      · subst hk
        rw [h3] at ho
        exact .inr ⟨h2, _, (Option.some.inj ho).symm⟩
      · exact .inl ((World.putObj_heap_other hk).trans ho)
end Go.Proofs.YtjmgjkcjnjlpdaaGreatDoor

/-! ## A7 -/
namespace Go.Proofs.YtjmgjkcjnjlpdaaGreatDoor
open Go.RowKit

section
variable {P : Program} {ops : Array Oper} {rest : List Oper} {o : Oper} {a : Act} {Q : Exit → Act → World → Prop}

/-- 'append(s, x...)', x a slice that is read: nil, empty or not. -/
theorem wpList_append_rd (w : World) (hgd : o.guard = none) (s x : Operand) (t : TypeId) (ho : o.op = .call { callee := .builtin .append, args := #[s, x], argTypes := #[t, t] })
    (base : Nat) (e : TypeId) (k bytes : Nat) (z : Array Value) (ht : P.underlying t = some (.slice e)) (hi : (P.info? e).map (fun i => (i.zero.map Value.cells, i.size, i.bytes)) = some (some z, k, bytes)) (hz : z.size = k) (hk : 0 < k)
    (A : Option Addr) (n cap : Nat) (xs : List Value) (hs : a.eval s = .slice A n cap) (hown : OwnR w base e k A n cap xs)
    (X : Option Addr) (m mc : Nat) (news : List Value) (hx : a.eval x = .slice X m mc) (hl : news.length = m * k) (hnews : Rd w X news) (h1 : ∀ u ∈ news, u.oneCell' = true)
    (hb : (n + m) * bytes ≤ 140737488355328) (h63 : n + m ≤ 9223372036854775807) (hbase : base ≤ w.heap.size)
    (h : ∀ A' cap' w', OwnR w' base e k A' (n + m) cap' (xs ++ news) → Fr (ablocks A) w w' → Lies w A A' → wpList P ops Q rest (a.put o.dst (.slice A' (n + m) cap')) w') :
    wpList P ops Q (o :: rest) a w := by
  obtain ⟨i, h2⟩ : ∃ i, P.info? e = some i := by
    cases h : P.info? e with
    | none => rw [h] at hi; cases hi
    | some i => exact ⟨i, rfl⟩
  rw [h2] at hi
  simp only [Option.map_some, Option.some.injEq, Prod.mk.injEq] at hi
  obtain ⟨h3, h4, h5⟩ := hi
  obtain ⟨zv, hzv⟩ : ∃ z, i.zero = some z := by
    cases h : i.zero with
    | none => rw [h] at h3; cases h3
    | some z => exact ⟨z, rfl⟩
  rw [hzv] at h3
  simp only [Option.map_some, Option.some.injEq] at h3
  cases X with
  | none =>
    have hn0 : news = [] := by
      cases news with
      | nil => rfl
      | cons u r => obtain ⟨b, off, h0, _⟩ := hnews (by simp); cases h0
    subst hn0
    obtain rfl : m = 0 := by
      rcases Nat.eq_zero_or_pos m with h0 | h0
      · exact h0
      · exfalso
        have : 1 * 1 ≤ m * k := Nat.mul_le_mul h0 hk
        rw [← hl] at this; simp at this
    have hr : (Builtin.append_ #[t, t] o.type #[.slice A n cap, .slice none 0 mc]).run P w = .ok (.slice A n cap) w := by
      rcases hown.2 with ⟨hA, rfl⟩ | ⟨g, c, cur, hA, _, _, hnc, _⟩
      · cases hA
        simp [Builtin.append_, run_underlying ht, sizeOf, typeInfo, h2, Builtin.lenOf, Builtin.firstCells]
      · cases hA
        simp [Builtin.append_, run_underlying ht, sizeOf, typeInfo, h2, Builtin.lenOf, Builtin.firstCells, hnc, storeCells]
    refine wpList_plain hgd fun K hK => ?_
    unfold Oper.wp execOp
    simp only [ho, resolve, invoke, builtin, Sem.run_bind, Sem.run_pure, Result.andThen_ok, List.map_toArray, List.map_cons, List.map_nil, hs, hx, hr]
    exact hK _ _ (h A cap w (by simpa using hown) (Fr.refl _ _) (fun a' ha => .inl ⟨a', ha, rfl⟩))
  | some ad =>
    refine wpList_append_own_at w hgd s x t ho base e i zv k bytes ht h2 hzv h4 h5 (by rw [h3, hz]) hk (.slice A n cap) n xs hs hown ad m mc news hx hl ?_ h1 (by unfold maxLen; omega) hb hbase ?_
    · intro j u hu
      obtain ⟨b, off, h0, _, hc⟩ := hnews (by intro h0; rw [h0] at hu; simp at hu)
      cases h0
      have := hc j u hu
      by_cases hj : j = 0
      · subst hj; simpa [Addr.add] using this
      · simpa [Addr.add, hj] using this
    · intro v' w' hown' hgrow hnil hat
      have hv' : ∃ A' cap', v' = .slice A' (n + m) cap' := by
        rcases hown'.2 with ⟨h1, h2⟩ | ⟨g, c, cur, h1, _⟩
        · exact ⟨none, 0, by rw [h1, h2]⟩
        · exact ⟨_, _, h1⟩
      obtain ⟨A', cap', rfl⟩ := hv'
      refine h A' cap' w' hown' ?_ ?_
      · refine (Fr.refl _ w).grown hgrow ?_
        intro i hi
        refine .inl (mem_ablocks.2 ?_)
        cases A with
        | none => cases hi
        | some a => exact ⟨a, rfl, by simpa [Value.ownBlock] using hi⟩
      · rintro a' rfl
        rcases hat with hat | hat
        · cases A with
          | none => simp [Value.ownBlock] at hat
          | some a => exact .inl ⟨a, rfl, by simpa [Value.ownBlock] using hat⟩
        · exact .inr (by simpa [Value.ownBlock] using hat)
end

theorem set_flatMap5 {α : Type} (f : α → List Value) (hk : ∀ x, (f x).length = 5) (x : α) (v0 v1 v2 v3 v4 : Value) (hx : f x = [v0, v1, v2, v3, v4]) : ∀ (l : List α) (i : Nat), i < l.length →
    ((((((l.flatMap f).set (i * 5) v0).set (i * 5 + 1) v1).set (i * 5 + 2) v2).set (i * 5 + 3) v3).set (i * 5 + 4) v4) = (l.set i x).flatMap f
  | [], _, h => by simp at h
  | y :: r, 0, _ => by
    have := hk y
    obtain ⟨a, b, c, d, e, h⟩ : ∃ a b c d e, f y = [a, b, c, d, e] := by
      match f y, this with
      | [a, b, c, d, e], _ => exact ⟨a, b, c, d, e, rfl⟩
    simp [h, hx]
  | y :: r, i + 1, h => by
    have ih := set_flatMap5 f hk x v0 v1 v2 v3 v4 hx r i (by simpa using h)
    have := hk y
    obtain ⟨a, b, c, d, e, h'⟩ : ∃ a b c d e, f y = [a, b, c, d, e] := by
      match f y, this with
      | [a, b, c, d, e], _ => exact ⟨a, b, c, d, e, rfl⟩
    have e0 : (i + 1) * 5 = i * 5 + 1 + 1 + 1 + 1 + 1 := by omega
    simp only [List.flatMap_cons, h', e0, List.set_cons_succ, List.cons_append, List.nil_append, List.cons.injEq, true_and]
    rw [← ih]

/-! ### a slice of the call's own whose elements are set -/
/-- The own slice's row at an element of one cell: set. -/
theorem OwnR.set {w : World} {base : Nat} {e : TypeId} {k : Nat} {g n cap : Nat} {xs : List Value} (h : OwnR w base e k (some ⟨g, 0, none⟩) n cap xs) (i : Nat) (hi : i < xs.length) (v : Value) :
    OwnR (w.setCell ⟨g, i, none⟩ v) base e k (some ⟨g, 0, none⟩) n cap (xs.set i v) := by
  refine ⟨by simpa using h.1, .inr ?_⟩
  rcases h.2 with ⟨h1, _⟩ | ⟨g', c, cur, h1, h2, h3, h4, h5, h6, h7⟩
  · cases h1
  · cases h1
    refine ⟨g, cap, cur.setIfInBounds i v, rfl, h2, ?_, h4, h5, by simpa using h6, ?_⟩
    · simp [World.setCell, Array.getElem?_modify, h3]
    · rw [Array.toList_setIfInBounds, ← h7, List.take_set]
theorem OwnR.frozen {w : World} {base : Nat} {e : TypeId} {k : Nat} {g n cap : Nat} {xs : List Value} (h : OwnR w base e k (some ⟨g, 0, none⟩) n cap xs) (i : Nat) : w.frozen? ⟨g, i, none⟩ = false := by
  rcases h.2 with ⟨h1, _⟩ | ⟨g', c, cur, h1, h2, h3, _⟩
  · cases h1
  · cases h1; simp [World.frozen?, h3]
end Go.Proofs.YtjmgjkcjnjlpdaaGreatDoor

/-! ## A8 -/
namespace Go.Proofs.YtjmgjkcjnjlpdaaGreatDoor
open Go.RowKit

/-! ### a region that draws its order, by what stands between its operations -/
section
variable {P : Program} {ops : Array Oper} {Q : Exit → Act → World → Prop}

def unl (L : Array Bool) : Nat := L.toList.countP (fun x => !x)

theorem unl_set {L : Array Bool} {i : Nat} (hi : i < L.size) (h : L.getD i true = false) : unl (L.setIfInBounds i true) + 1 = unl L := by
  have hl : L.toList[i]? = some false := by
    have : L[i]? = some L[i] := Array.getElem?_eq_getElem hi
    simp only [Array.getD_eq_getD_getElem?, this, Option.getD_some] at h
    simp [hi, h]
  have hi' := (List.getElem?_eq_some_iff.1 hl).1
  have he := (List.getElem?_eq_some_iff.1 hl).2
  unfold unl
  rw [Array.toList_setIfInBounds, List.countP_set hi', he]
  have hpos : 0 < L.toList.countP (fun x => !x) := List.countP_pos_iff.2 ⟨false, he ▸ List.getElem_mem hi', rfl⟩
  rw [if_pos (by rfl), if_neg (by simp)]
  omega

theorem unl_rep (n : Nat) : unl (Array.replicate n false) ≤ n := by
  unfold unl
  refine Nat.le_trans List.countP_le_length ?_
  simp
theorem rep_getD (n k : Nat) : (Array.replicate n false).getD k false = false := by
  by_cases hk : k < n
  · simp [Array.getD_eq_getD_getElem?, hk]
  · simp [Array.getD_eq_getD_getElem?, hk]

/-- every binding edge leads back (checked by the kernel) -/
def backB (md : Region.Mode) (ops : Array Oper) : Bool := (List.range ops.size).all fun i => ((ops[i]?).map (·.after.all fun e => !Region.binds md e || decide (e.on < i))).getD true

theorem wpAny_inv {md : Region.Mode} (hback : backB md ops = true) (I : (Nat → Bool) → Act → World → Prop)
    (hdone : ∀ b a w, I b a w → (∀ i, i < ops.size → b i = true) → Q .normal a w)
    (hstep : ∀ (b : Nat → Bool) a w i o, I b a w → ops[i]? = some o → b i = false → (∀ e ∈ o.after, Region.binds md e = true → b e.on = true) →
      (∀ j o', ops[j]? = some o' → b j = true → ∀ e ∈ o'.after, Region.binds md e = true → b e.on = true) →
      wpOp P ops Q i (fun a' w' => I (fun j => if j = i then true else b j) a' w') a w) :
    ∀ (fuel : Nat) (L : Array Bool) (a : Act) (w : World), L.size = ops.size → unl L ≤ fuel → I (fun j => L.getD j false) a w →
      (∀ j o', ops[j]? = some o' → L.getD j false = true → ∀ e ∈ o'.after, Region.binds md e = true → L.getD e.on false = true) → wpAny P md ops Q fuel L a w := by
  have hall : ∀ (L : Array Bool), L.size = ops.size → Region.ready md ops L = [] → ∀ i, i < ops.size → L.getD i false = true := by
    intro L hL hr i
    induction i using Nat.strongRecOn with
    | _ i ih =>
      intro hi
      apply Classical.byContradiction
      intro hc
      have hmem : i ∈ Region.ready md ops L := by
        unfold Region.ready
        rw [List.mem_filter]
        refine ⟨List.mem_range.2 hi, ?_⟩
        have h1 : L.getD i true = false := by
          have : L[i]? = some L[i] := Array.getElem?_eq_getElem (by omega)
          simp only [Array.getD_eq_getD_getElem?, this, Option.getD_some] at hc ⊢
          simpa using hc
        have ho : ops[i]? = some ops[i] := Array.getElem?_eq_getElem hi
        rw [h1, ho]
        simp only [Bool.not_false, Bool.true_and, Option.map_some, Option.getD_some]
        rw [Array.all_eq_true']
        intro e he
        unfold backB at hback
        rw [List.all_eq_true] at hback
        have hb := hback i (List.mem_range.2 hi)
        rw [ho] at hb
        simp only [Option.map_some, Option.getD_some, Array.all_eq_true'] at hb
        have h2 := hb e he
        cases hbd : Region.binds md e with
        | false => simp
        | true =>
          rw [hbd] at h2
          simp only [Bool.not_true, Bool.false_or, decide_eq_true_eq] at h2
          rw [ih e.on h2 (by omega)]
          simp
      rw [hr] at hmem
      simp at hmem
  intro fuel
  induction fuel with
  | zero =>
    intro L a w hL hu hI hcl
    have hr : Region.ready md ops L = [] := by
      apply List.eq_nil_iff_forall_not_mem.2
      intro i hi
      unfold Region.ready at hi
      rw [List.mem_filter] at hi
      obtain ⟨h1, h2⟩ := hi
      simp only [Bool.and_eq_true, Bool.not_eq_true'] at h2
      have := unl_set (by rw [hL]; simpa using h1) h2.1
      omega
    exact ⟨hr, hdone _ a w hI (hall L hL hr)⟩
  | succ fuel ih =>
    intro L a w hL hu hI hcl
    refine ⟨fun hr => hdone _ a w hI (hall L hL hr), ?_⟩
    intro i hi
    unfold Region.ready at hi
    rw [List.mem_filter] at hi
    obtain ⟨h1, h2⟩ := hi
    have h1 := List.mem_range.1 h1
    simp only [Bool.and_eq_true, Bool.not_eq_true'] at h2
    obtain ⟨h2, h3⟩ := h2
    have ho : ops[i]? = some ops[i] := Array.getElem?_eq_getElem h1
    have hLi : L.getD i false = false := by
      have : L[i]? = some L[i] := Array.getElem?_eq_getElem (by omega)
      simp only [Array.getD_eq_getD_getElem?, this, Option.getD_some] at h2 ⊢
      exact h2
    have hdeps : ∀ e ∈ ops[i].after, Region.binds md e = true → L.getD e.on false = true := by
      intro e he hb
      rw [ho] at h3
      simp only [Option.map_some, Option.getD_some, Array.all_eq_true'] at h3
      have := h3 e he
      rw [hb] at this
      simpa using this
    have hbit : ∀ j, (L.setIfInBounds i true).getD j false = if j = i then true else L.getD j false := by
      intro j
      simp only [Array.getD_eq_getD_getElem?, Array.getElem?_setIfInBounds]
      by_cases hj : j = i
      · subst hj; simp [hL, h1]
      · rw [if_neg (fun e => hj e.symm), if_neg hj]
    have hfun : (fun j => (L.setIfInBounds i true).getD j false) = (fun j => if j = i then true else L.getD j false) := funext hbit
    refine wpOp_mono ?_ (hstep _ a w i _ hI ho hLi hdeps hcl)
    intro a' w' hI'
    refine ih _ a' w' (by simpa using hL) ?_ (by rw [hfun]; exact hI') ?_
    · have := unl_set (by omega) h2
      omega
    · intro j o' hj hb e he hbd
      rw [hbit] at hb ⊢
      by_cases hji : j = i
      · subst hji
        rw [ho] at hj
        cases hj
        split
        · rfl
        · exact hdeps e he hbd
      · rw [if_neg hji] at hb
        split
        · rfl
        · exact hcl j o' hj hb e he hbd
end

/-! ### four parts of memory, apart from each other -/
abbrev Comp := List Nat → World → Prop
def Foot (c : Comp) : Prop := ∀ O S w w', c O w → Fr S w w' → (∀ k ∈ O, k ∉ S) → c O w'
def Apart (a b : List Nat) : Prop := ∀ k ∈ a, k ∉ b
def Inv4 (W : World) (c0 c1 c2 c3 : Comp) (w : World) : Prop :=
  Fr [] W w ∧ ∃ o0 o1 o2 o3 : List Nat, (c0 o0 w ∧ c1 o1 w ∧ c2 o2 w ∧ c3 o3 w) ∧ (∀ k, (k ∈ o0 ∨ k ∈ o1 ∨ k ∈ o2 ∨ k ∈ o3) → W.heap.size ≤ k ∧ k < w.heap.size) ∧
    Apart o0 o1 ∧ Apart o0 o2 ∧ Apart o0 o3 ∧ Apart o1 o2 ∧ Apart o1 o3 ∧ Apart o2 o3
theorem Apart.symm {a b : List Nat} (h : Apart a b) : Apart b a := fun k hk hk2 => h k hk2 hk
theorem Inv4.rot {W : World} {c0 c1 c2 c3 : Comp} {w : World} (h : Inv4 W c0 c1 c2 c3 w) : Inv4 W c1 c2 c3 c0 w := by
  obtain ⟨hf, o0, o1, o2, o3, ⟨h0, h1, h2, h3⟩, hk, a01, a02, a03, a12, a13, a23⟩ := h
  exact ⟨hf, o1, o2, o3, o0, ⟨h1, h2, h3, h0⟩, fun k hk2 => hk k (by rcases hk2 with h | h | h | h <;> simp [h]), a12, a13, a01.symm, a23, a02.symm, a03.symm⟩
theorem Inv4.open {W : World} {c0 c1 c2 c3 : Comp} {w : World} (h : Inv4 W c0 c1 c2 c3 w) (f1 : Foot c1) (f2 : Foot c2) (f3 : Foot c3) :
    ∃ O, c0 O w ∧ (∀ k ∈ O, W.heap.size ≤ k ∧ k < w.heap.size) ∧ ∀ (c0' : Comp) (O' : List Nat) (w' : World), c0' O' w' → Fr O w w' → NewIn O O' w w' → Inv4 W c0' c1 c2 c3 w' := by
  obtain ⟨hf, o0, o1, o2, o3, ⟨h0, h1, h2, h3⟩, hk, a01, a02, a03, a12, a13, a23⟩ := h
  refine ⟨o0, h0, fun k hk0 => hk k (.inl hk0), ?_⟩
  intro c0' O' w' hc hfr hn
  have hnew : ∀ (o : List Nat), Apart o0 o → (∀ k ∈ o, k < w.heap.size) → Apart O' o := fun o ha hlt k hkO hko => by
    rcases hn.1 k hkO with h | h
    · exact ha k h hko
    · have := hlt k hko; omega
  refine ⟨hf.trans hfr (fun k hk0 => .inr (hk k (.inl hk0)).1), O', o1, o2, o3, ⟨hc, f1 _ _ _ _ h1 hfr a01.symm, f2 _ _ _ _ h2 hfr a02.symm, f3 _ _ _ _ h3 hfr a03.symm⟩, ?_, hnew _ a01 (fun k hk1 => (hk k (.inr (.inl hk1))).2),
    hnew _ a02 (fun k hk1 => (hk k (.inr (.inr (.inl hk1)))).2), hnew _ a03 (fun k hk1 => (hk k (.inr (.inr (.inr hk1)))).2), a12, a13, a23⟩
  have hs := hfr.size
  have hWw := hf.size
  rintro k (h | h | h | h)
  · rcases hn.1 k h with h' | h'
    · exact ⟨(hk k (.inl h')).1, hn.2 k h⟩
    · exact ⟨by omega, hn.2 k h⟩
  · have := hk k (.inr (.inl h)); exact ⟨this.1, by omega⟩
  · have := hk k (.inr (.inr (.inl h))); exact ⟨this.1, by omega⟩
  · have := hk k (.inr (.inr (.inr h))); exact ⟨this.1, by omega⟩

/-- a slice being made: first empty, then filled -/
def CX (B : Nat) (e : TypeId) (k n : Nat) (xs : List Value) (s0 s3 : Bool) (v0 v3 : Value) : Comp := fun O w =>
  (s0 = true → s3 = false → ∃ A c, v0 = .slice A 0 c ∧ OwnR w B e k A 0 c [] ∧ O = ablocks A) ∧ (s3 = true → ∃ A c, v3 = .slice A n c ∧ OwnR w B e k A n c xs ∧ O = ablocks A)
theorem CX.foot {B e k n xs s0 s3 v0 v3} : Foot (CX B e k n xs s0 s3 v0 v3) := by
  rintro O S w w' ⟨h1, h2⟩ hf hS
  refine ⟨fun a b => ?_, fun a => ?_⟩
  · obtain ⟨A, c, h3, h4, rfl⟩ := h1 a b
    exact ⟨A, c, h3, h4.fr hf (fun x hx => hS _ (mem_ablocks.2 ⟨x, hx, rfl⟩)), rfl⟩
  · obtain ⟨A, c, h3, h4, rfl⟩ := h2 a
    exact ⟨A, c, h3, h4.fr hf (fun x hx => hS _ (mem_ablocks.2 ⟨x, hx, rfl⟩)), rfl⟩
/-- a record of two cells being made: first laid, then written -/
def CP (z0 z1 : Value) (s0 s1 : Bool) (v x0 x1 : Value) : Comp := fun O w =>
  s0 = true → ∃ p, v = .pointer (some ⟨p, 0, none⟩) ∧ O = [p] ∧ p < w.heap.size ∧ (∀ i, w.frozen? ⟨p, i, none⟩ = false) ∧ (s1 = false → w.cell? ⟨p, 0, none⟩ = some z0 ∧ w.cell? ⟨p, 1, none⟩ = some z1) ∧ (s1 = true → w.cell? ⟨p, 0, none⟩ = some x0 ∧ w.cell? ⟨p, 1, none⟩ = some x1)
theorem CP.foot {z0 z1 s0 s1 v x0 x1} : Foot (CP z0 z1 s0 s1 v x0 x1) := by
  rintro O S w w' h hf hS a
  obtain ⟨p, h1, rfl, h2, h3, h4, h5⟩ := h a
  have hp := hS p (by simp)
  exact ⟨p, h1, rfl, Nat.lt_of_lt_of_le h2 hf.size, fun i => (hf.frozenE (p := ⟨p, i, none⟩) h2 hp).trans (h3 i), fun b => ⟨hf.cell (h4 b).1 hp, hf.cell (h4 b).2 hp⟩, fun b => ⟨hf.cell (h5 b).1 hp, hf.cell (h5 b).2 hp⟩⟩

/-- 'append(s, x...)' at a slice of the call's own, x a slice that is read: as a run -/
theorem run_append_rd {P : Program} (w : World) (t ty : TypeId) (base : Nat) (e : TypeId) (k bytes : Nat) (z : Array Value) (ht : P.underlying t = some (.slice e)) (hi : (P.info? e).map (fun i => (i.zero.map Value.cells, i.size, i.bytes)) = some (some z, k, bytes)) (hz : z.size = k) (hk : 0 < k)
    (A : Option Addr) (n cap : Nat) (xs : List Value) (hown : OwnR w base e k A n cap xs)
    (X : Option Addr) (m mc : Nat) (news : List Value) (hl : news.length = m * k) (hnews : Rd w X news) (h1 : ∀ u ∈ news, u.oneCell' = true)
    (hb : (n + m) * bytes ≤ 140737488355328) (h63 : n + m ≤ 9223372036854775807) (hbase : base ≤ w.heap.size) :
    ∃ A' cap' w', (Builtin.append_ #[t, t] ty #[.slice A n cap, .slice X m mc]).run P w = .ok (.slice A' (n + m) cap') w' ∧ OwnR w' base e k A' (n + m) cap' (xs ++ news) ∧ Fr (ablocks A) w w' ∧ Lies w A A' := by
  obtain ⟨i, h2⟩ : ∃ i, P.info? e = some i := by
    cases h : P.info? e with
    | none => rw [h] at hi; cases hi
    | some i => exact ⟨i, rfl⟩
  rw [h2] at hi
  simp only [Option.map_some, Option.some.injEq, Prod.mk.injEq] at hi
  obtain ⟨h3, h4, h5⟩ := hi
  obtain ⟨zv, hzv⟩ : ∃ z, i.zero = some z := by
    cases h : i.zero with
    | none => rw [h] at h3; cases h3
    | some z => exact ⟨z, rfl⟩
  rw [hzv] at h3
  simp only [Option.map_some, Option.some.injEq] at h3
  cases X with
  | none =>
    have hn0 : news = [] := by
      cases news with
      | nil => rfl
      | cons u r => obtain ⟨b, off, h0, _⟩ := hnews (by simp); cases h0
    subst hn0
    obtain rfl : m = 0 := by
      rcases Nat.eq_zero_or_pos m with h0 | h0
      · exact h0
      · exfalso
        have : 1 * 1 ≤ m * k := Nat.mul_le_mul h0 hk
        rw [← hl] at this; simp at this
    refine ⟨A, cap, w, ?_, by simpa using hown, Fr.refl _ _, fun a' ha => .inl ⟨a', ha, rfl⟩⟩
    rcases hown.2 with ⟨hA, rfl⟩ | ⟨g, c, cur, hA, _, _, hnc, _⟩
    · cases hA
      simp [Builtin.append_, run_underlying ht, sizeOf, typeInfo, h2, Builtin.lenOf, Builtin.firstCells]
    · cases hA
      simp [Builtin.append_, run_underlying ht, sizeOf, typeInfo, h2, Builtin.lenOf, Builtin.firstCells, hnc, storeCells]
  | some ad =>
    obtain ⟨v', w', hr, hown', hgrow, hnil, hat⟩ := run_append_own_at (P := P) w base t ty e i zv k bytes ht h2 hzv h4 h5 (by rw [h3, hz]) hk (.slice A n cap) n xs hown ad m mc news hl (by
      intro j u hu
      obtain ⟨b, off, h0, _, hc⟩ := hnews (by intro h0; rw [h0] at hu; simp at hu)
      cases h0
      have := hc j u hu
      by_cases hj : j = 0
      · subst hj; simpa [Addr.add] using this
      · simpa [Addr.add, hj] using this) h1 (by unfold maxLen; omega) hb hbase
    have hv' : ∃ A' cap', v' = .slice A' (n + m) cap' := by
      rcases hown'.2 with ⟨h1, h2⟩ | ⟨g, c, cur, h1, _⟩
      · exact ⟨none, 0, by rw [h1, h2]⟩
      · exact ⟨_, _, h1⟩
    obtain ⟨A', cap', rfl⟩ := hv'
    refine ⟨A', cap', w', hr, hown', ?_, ?_⟩
    · refine (Fr.refl _ w).grown hgrow ?_
      intro i hi
      refine .inl (mem_ablocks.2 ?_)
      cases A with
      | none => cases hi
      | some a => exact ⟨a, rfl, by simpa [Value.ownBlock] using hi⟩
    · rintro a' rfl
      rcases hat with hat | hat
      · cases A with
        | none => simp [Value.ownBlock] at hat
        | some a => exact .inl ⟨a, rfl, by simpa [Value.ownBlock] using hat⟩
      · exact .inr (by simpa [Value.ownBlock] using hat)

theorem wpOp_append {P : Program} {ops : Array Oper} {Q : Exit → Act → World → Prop} {i : Nat} {o : Oper} {K : Act → World → Prop} {a : Act} {w w' : World} (ho : ops[i]? = some o) (hw : Region.wanted o (yielded ops a.tmps) = true) (s x : Operand) (t : TypeId) (hop : o.op = .call { callee := .builtin .append, args := #[s, x], argTypes := #[t, t] })
    (vs vx v' : Value) (hs : a.eval s = vs) (hx : a.eval x = vx) (hrun : (Builtin.append_ #[t, t] o.type #[vs, vx]).run P w = .ok v' w') (hK : K (a.put o.dst v') w') : wpOp P ops Q i K a w := by
  refine wpOp_step ho (fun K' h => ?_)
  rw [if_pos hw]
  unfold Oper.wp execOp
  simp only [hop, resolve, invoke, builtin, Sem.run_bind, Sem.run_pure, Result.andThen_ok, List.map_toArray, List.map_cons, List.map_nil, hs, hx, hrun]
  exact h _ _ hK
end Go.Proofs.YtjmgjkcjnjlpdaaGreatDoor
