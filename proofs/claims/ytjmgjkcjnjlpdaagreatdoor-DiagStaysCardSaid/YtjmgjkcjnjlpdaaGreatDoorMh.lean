/- sphenoidlaw22.DiagStays: a part of its proof: walks of the functions that it comes to, and plain laws (D23, D24, D25, D26). -/
import Derived.Test.YtjmgjkcjnjlpdaaGreatDoorMb
import Derived.BigQuiet
import Derived.Test.YtjmgjkcjnjlpdaaGreatDoorMa
import Derived.Test.YtjmgjkcjnjlpdaaGreatDoorMd
set_option linter.unusedVariables false
set_option linter.unusedSimpArgs false
set_option linter.unusedSectionVars false
/-! ## D23 -/
namespace Go.Proofs.YtjmgjkcjnjlpdaaGreatDoor
open Go.RowKit

theorem neqCr (x y : Cr) (w : World) : Sem.run Tryz.prog (binOp .neq 54 (.agg #[.int .i64 x.a, .int .i64 x.b, .int .i64 x.c, .int .i64 x.d, .int .i64 x.s]) (.agg #[.int .i64 y.a, .int .i64 y.b, .int .i64 y.c, .int .i64 y.d, .int .i64 y.s])) w = .ok (.bool (!decide (x = y))) w := by
  obtain ⟨a, b, c, d, s⟩ := x
  obtain ⟨a', b', c', d', s'⟩ := y
  unfold binOp Op.equal Op.maxDepth
  go_simp
  unfold Op.equalIn
  go_simp
  rw [show List.range' 0 4 = [0, 1, 2, 3] from rfl]
  go_simp
  by_cases h1 : a = a' <;> by_cases h2 : b = b' <;> by_cases h3 : c = c' <;> by_cases h4 : d = d' <;> by_cases h5 : s = s' <;> simp [h1, h2, h3, h4, h5]

set_option maxHeartbeats 1000000 in
set_option maxRecDepth 100000 in
theorem equal_any (xs ys : List Cr) (A B : Option Addr) (capA capB : Nat) (w : World) (hx : Rd w A (crCells xs)) (hy : Rd w B (crCells ys)) (hlx : xs.length ≤ 140737488355328) (hly : ys.length ≤ 140737488355328) :
    Calls Tryz.prog 40 #[.slice A xs.length capA, .slice B ys.length capB] w fun e w' => (∃ b, e = .returned (.bool b)) ∧ Fr [] w w' := by
  by_cases hlen : xs.length = ys.length
  case neg =>
    have hq : ((xs.length : Int) != (ys.length : Int)) = true := by simp; omega
    clear hlen
    go_enter Tryz.func40, Tryz.ntmps40
    go_wp2
    go_ret
    exact ⟨⟨_, rfl⟩, Fr.refl _ _⟩
  have hq : ((xs.length : Int) != (ys.length : Int)) = false := by simp; omega
  have HL := hid hlen
  clear hlen
  go_enter Tryz.func40, Tryz.ntmps40
  go_wp2
  go_loopw [13] (fun i wr => ∃ (k : Nat), k ≤ xs.length ∧ i = .int .i64 k ∧ Fr [] w wr) (fun i _ => xs.length - (intOf i).toNat)
  case atStart => exact ⟨0, by omega, rfl, Fr.refl _ _⟩
  case round =>
    obtain ⟨k, hk, rfl, hf⟩ := hrel
    by_cases hlt : k < xs.length
    · obtain ⟨b, off, rfl, hb, x0, x1, x2, x3, x4⟩ := (hx.fr0 hf).cr (List.getElem?_eq_getElem hlt)
      obtain ⟨b', off', rfl, hb', y0, y1, y2, y3, y4⟩ := (hy.fr0 hf).cr (List.getElem?_eq_getElem (show k < ys.length by rw [← HL.out]; exact hlt))
      have hlt' : k < ys.length := by rw [← HL.out]; exact hlt
      generalize xs[k] = x at x0 x1 x2 x3 x4
      generalize ys[k] = y at y0 y1 y2 y3 y4
      have hne := neqCr x y
      generalize decide (x = y) = q at hne
      cases q
      · go_wp2
        go_quiet (fail)
        go_wp2
        go_ret
        exact ⟨⟨_, rfl⟩, hf.drewN _⟩
      · go_wp2
        go_quiet (fail)
        go_wp2
        go_roundw
        case rel => exact ⟨k + 1, by omega, by simp, hf.drewN _⟩
        case measure => simp [intOf]; omega
    · have hke : k = xs.length := by omega
      subst hke
      go_wp2
      go_ret
      exact ⟨⟨_, rfl⟩, hf⟩

set_option maxHeartbeats 1000000 in
set_option maxRecDepth 100000 in
/-- diag.Same -/
theorem same_any (xs ys : List Cr) (A B : Option Addr) (capA capB : Nat) (La Lb : Int) (w : World) (hx : Rd w A (crCells xs)) (hy : Rd w B (crCells ys)) (hlx : xs.length ≤ 140737488355328) (hly : ys.length ≤ 140737488355328) :
    Calls Tryz.prog 17 #[.agg #[.slice A xs.length capA, .int .i64 La], .agg #[.slice B ys.length capB, .int .i64 Lb]] w fun e w' => (∃ b, e = .returned (.bool b)) ∧ Fr [] w w' := by
  go_enter Tryz.func17, Tryz.ntmps17
  obtain ⟨W, hW⟩ : ∃ W, W = (w.alloc (.cells #[.slice A xs.length capA, .int .i64 La] 24)).alloc (.cells #[.slice B ys.length capB, .int .i64 Lb] 24) := ⟨_, rfl⟩
  have hf : Fr [] w W := by rw [hW]; exact ((Fr.refl _ _).alloc _).alloc _
  by_cases hq : La = Lb
  · have hq' : (La == Lb) = true := by simp [hq]
    clear hq
    go_wp2_with fail
    rw [← hW]
    refine (equal_any xs ys A B capA capB W (hx.fr0 hf) (hy.fr0 hf) hlx hly).mono ?_
    rintro e w1 ⟨⟨b, rfl⟩, hf1⟩
    go_wp2
    go_ret
    exact ⟨⟨_, rfl⟩, hf.then hf1⟩
  · have hq' : (La == Lb) = false := by simp [hq]
    clear hq
    go_wp2
    go_ret
    exact ⟨⟨_, rfl⟩, by rw [← hW]; exact hf⟩

set_option maxHeartbeats 1000000 in
set_option maxRecDepth 100000 in
/-- sphenoidref22.Same, at one and the same content -/
theorem rsame_any (xs : List Cr) (A B : Option Addr) (capA capB : Nat) (L : Int) (w : World) (hx : Rd w A (crCells xs)) (hy : Rd w B (crCells xs)) (hlx : xs.length ≤ 140737488355328) :
    Calls Tryz.prog 19 #[.agg #[.slice A xs.length capA, .int .i64 L], .agg #[.slice B xs.length capB, .int .i64 L]] w fun e w' => e = .returned (.bool true) ∧ Fr [] w w' := by
  go_enter Tryz.func19, Tryz.ntmps19
  go_wp2_with fail
  obtain ⟨W, hW⟩ : ∃ W, W = (w.alloc (.cells #[.slice A xs.length capA, .int .i64 L] 24)).alloc (.cells #[.slice B xs.length capB, .int .i64 L] 24) := ⟨_, rfl⟩
  have hf : Fr [] w W := by rw [hW]; exact ((Fr.refl _ _).alloc _).alloc _
  have a0 : W.cell? ⟨w.heap.size, 0, none⟩ = some (.slice A xs.length capA) := by rw [hW]; go_simp
  have b0 : W.cell? ⟨w.heap.size + 1, 0, none⟩ = some (.slice B xs.length capB) := by rw [hW]; go_simp
  have hs0 : w.heap.size < W.heap.size := by rw [hW]; simp; omega
  have hs1 : w.heap.size + 1 < W.heap.size := by rw [hW]; simp
  rw [← hW]
  clear hW
  go_loopw [5] (fun i wr => ∃ (k : Nat), k ≤ xs.length ∧ i = .int .i64 k ∧ Fr [] W wr) (fun i _ => xs.length - (intOf i).toNat)
  case atStart => exact ⟨0, by omega, rfl, Fr.refl _ _⟩
  case round =>
    obtain ⟨k, hk, rfl, hfr⟩ := hrel
    replace a0 := hfr.cell a0 (by simp)
    replace b0 := hfr.cell b0 (by simp)
    replace hs0 := Nat.lt_of_lt_of_le hs0 hfr.size
    replace hs1 := Nat.lt_of_lt_of_le hs1 hfr.size
    have hall := hf.then hfr
    by_cases hlt : k < xs.length
    · obtain ⟨b, off, rfl, hb, x0, x1, x2, x3, x4⟩ := (hx.fr0 hall).cr (List.getElem?_eq_getElem hlt)
      obtain ⟨b', off', rfl, hb', y0, y1, y2, y3, y4⟩ := (hy.fr0 hall).cr (List.getElem?_eq_getElem hlt)
      generalize xs[k] = x at x0 x1 x2 x3 x4 y0 y1 y2 y3 y4
      have hne : ∀ W, Sem.run Tryz.prog (binOp .neq 54 (.agg #[.int .i64 x.a, .int .i64 x.b, .int .i64 x.c, .int .i64 x.d, .int .i64 x.s]) (.agg #[.int .i64 x.a, .int .i64 x.b, .int .i64 x.c, .int .i64 x.d, .int .i64 x.s])) W = .ok (.bool false) W := fun W => by rw [neqCr]; simp
      go_wp2
      go_quiet (fail)
      go_wp2
      go_roundw
      case rel => exact ⟨k + 1, by omega, by simp, hfr.drewN _⟩
      case measure => simp [intOf]; omega
    · have hke : k = xs.length := by omega
      subst hke
      go_wp2
      go_ret
      exact ⟨rfl, hall⟩
end Go.Proofs.YtjmgjkcjnjlpdaaGreatDoor

/-! ## D24 -/
namespace Go.Proofs.YtjmgjkcjnjlpdaaGreatDoor
open Go.RowKit

set_option maxHeartbeats 1000000 in
set_option maxRecDepth 100000 in
/-- sphenoidlaw22.same, at one and the same content -/
theorem sameInts_any (l : List Int) (A B : Option Addr) (capA capB : Nat) (w : World) (hx : Rd w A (ints l)) (hy : Rd w B (ints l)) (hlx : l.length ≤ 140737488355328) :
    Calls Tryz.prog 20 #[.slice A l.length capA, .slice B l.length capB] w fun e w' => e = .returned (.bool true) ∧ Fr [] w w' := by
  go_enter Tryz.func20, Tryz.ntmps20
  go_wp2
  go_loopw [5] (fun i wr => ∃ (k : Nat), k ≤ l.length ∧ i = .int .i64 k ∧ Fr [] w wr) (fun i _ => l.length - (intOf i).toNat)
  case atStart => exact ⟨0, by omega, rfl, Fr.refl _ _⟩
  case round =>
    obtain ⟨k, hk, rfl, hf⟩ := hrel
    by_cases hlt : k < l.length
    · have hn : ints l ≠ [] := by intro h; have := congrArg List.length h; simp only [ints, List.length_map, List.length_nil] at this; omega
      obtain ⟨b, off, rfl, hb, hc⟩ := (hx.fr0 hf) hn
      obtain ⟨b', off', rfl, hb', hc'⟩ := (hy.fr0 hf) hn
      have hg : (ints l)[k]? = some (.int .i64 l[k]) := by simp [ints, hlt]
      have x0 := hc k _ hg
      have y0 := hc' k _ hg
      generalize l[k] = x at x0 y0
      clear hc hc' hn hg
      go_wp2
      go_quiet (fail)
      go_wp2
      go_roundw
      case rel => exact ⟨k + 1, by omega, by simp, hf.drewN _⟩
      case measure => simp [intOf]; omega
    · have hke : k = l.length := by omega
      subst hke
      go_wp2
      go_ret
      exact ⟨rfl, hf⟩
end Go.Proofs.YtjmgjkcjnjlpdaaGreatDoor

/-! ## D25 -/
namespace Go.Proofs.YtjmgjkcjnjlpdaaGreatDoor
open Go.RowKit

attribute [local go_sem] Oper.semAt_some

def encI (x : Int) : Array Value := #[.int .i64 x]

set_option maxHeartbeats 400000 in
/-- slices.Values -/
theorem values_any (A : Option Addr) (n cap : Nat) (w : World) :
    Calls Tryz.prog 50 #[.slice A n cap] w fun e w' =>
      e = .returned (.func (.func 67) #[] #[.pointer (some ⟨w.heap.size, 0, none⟩)]) ∧ w.alloc (.cells #[.slice A n cap] 25) = w' := by
  have hmf : ∀ (fn : Fn) (first cap : Array Value) (w : World), (Instr.makeFunc fn first cap).run Tryz.prog w = .ok (.func fn first cap) w := fun _ _ _ _ => rfl
  go_enter Tryz.func50, Tryz.ntmps50
  go_wp2
  go_ret
  exact ⟨rfl, rfl⟩

set_option maxHeartbeats 1000000 in
set_option maxRecDepth 100000 in
/-- the iterator of slices.Values gives the list -/
theorem values1_iter (l : List Int) (A : Option Addr) (cap : Nat) (w : World) (N : Nat) (hN : N ≤ w.heap.size) (hr : Rd w A (ints l)) (hA : ints l ≠ [] → ∀ a, A = some a → a.block < N) (hl : l.length ≤ 140737488355328)
    (zv : Nat) (hv : w.cell? ⟨zv, 0, none⟩ = some (.slice A l.length cap)) (hz : zv < w.heap.size) (n : Nat) :
    IterF Tryz.prog n 67 #[.pointer (some ⟨zv, 0, none⟩)] encI l (fun k => k < N ∨ k = zv) w := by
  intro lp J Jx W O0 hw hJ hJx hO0 hY h0
  refine callsIn_of_wp Tryz.func67 rfl trivial ?_ rfl
  simp only [Tryz.ntmps67, List.size_toArray, List.length_cons, List.length_nil, Nat.reduceAdd, Nat.reduceSub, Array.replicate_succ, Array.replicate_zero, List.push_toArray, List.append_toArray, List.nil_append, List.cons_append]
  replace hv := hw.cell hv (by simp)
  have hzW : zv < W.heap.size := Nat.lt_of_lt_of_le hz hw.size
  have hrW := hr.fr0 hw
  have hO0N : ∀ k ∈ O0, N ≤ k := fun k hk => by have := (hO0 k hk).2; omega
  have hWN : N ≤ W.heap.size := Nat.le_trans hN hw.size
  gi_wp2
  gi_loopg [7] (l.length) (fun k v wr => ∃ (i : Nat) (O : List Nat), i + k = l.length ∧ v = .int .i64 i ∧ J (l.take i) O wr ∧ (∀ k ∈ O, k < wr.heap.size) ∧ Fr O0 W wr ∧ ∀ k ∈ O, k ∈ O0 ∨ W.heap.size ≤ k)
  case atStart => exact ⟨0, O0, by omega, rfl, by simpa using h0, fun k hk => by have := (hO0 k hk).1; omega, Fr.refl _ _, fun k hk => .inl hk⟩
  case round =>
    obtain ⟨i, O, hik, rfl, hJs, hOs, hfr, hOn⟩ := hrel
    have hON : ∀ k ∈ O, N ≤ k := fun k hk => (hOn k hk).elim (hO0N k) (fun h => by omega)
    by_cases hlt : i < l.length
    · have hn : ints l ≠ [] := by intro h; have := congrArg List.length h; simp only [ints, List.length_map, List.length_nil] at this; omega
      obtain ⟨b, off, rfl, hb, hc⟩ := (hrW.fr hfr (fun _ a ha hk => by have := hO0N _ hk; have := hA hn a ha; omega)) hn
      have x0 := hc i (.int .i64 l[i]) (by simp [ints, hlt])
      have htk : l.take (i + 1) = l.take i ++ [l[i]] := by rw [List.take_add_one, List.getElem?_eq_getElem hlt]; rfl
      have hpre : (l.take i ++ [l[i]]) <+: l := by rw [← htk]; exact List.take_prefix _ _
      generalize l[i] = x at x0 htk hpre
      clear hc hn
      obtain ⟨fn, tmps, assign, body, hy, hR⟩ := hY (l.take i) x wr O hJs hpre hOs
      dsimp only [encI] at hy
      gi_wp2
      refine hR.mono ?_
      rintro e W3 (⟨rfl, hf3, O3, hJ3, hn3, hn3'⟩ | ⟨rfl, hf3, O3, hJ3, hn3, hn3'⟩)
      all_goals have hfw : Fr O0 W W3 := hfr.trans hf3 hOn
      all_goals have hO3 : ∀ k ∈ O3, k ∈ O0 ∨ W.heap.size ≤ k := fun k hk => (hn3 k hk).elim (hOn k) (fun h => .inr (by have := hfr.size; omega))
      · gi_wp2
        gi_roundg (l.length - (i + 1))
        case rel => exact ⟨i + 1, O3, by omega, by go_num, by rw [htk]; exact hJ3, hn3', hfw, hO3⟩
        case measure => omega
      · gi_wp2
        exact bodyPost_ret (results_none rfl _ _ _) rfl ⟨⟨_, rfl⟩, hfw, O3, ⟨hO3, hn3'⟩, .inr ⟨_, hpre, hJ3⟩⟩
    · have hie : i = l.length := by omega
      subst hie
      gi_wp2
      go_end0
      exact ⟨⟨_, rfl⟩, hfr, O, ⟨hOn, hOs⟩, .inl (by simpa using hJs)⟩
end Go.Proofs.YtjmgjkcjnjlpdaaGreatDoor

/-! ## D26 -/
namespace Go.Proofs.YtjmgjkcjnjlpdaaGreatDoor
open Go.RowKit

attribute [local go_sem] Oper.semAt_some

theorem Tk.own {N : Nat} {w w' : World} (h : Tk N w w') {base : Nat} {e : TypeId} {k : Nat} {A : Option Addr} {n cap : Nat} {xs : List Value} (hr : OwnR w base e k A n cap xs) : OwnR w' base e k A n cap xs := by
  refine ⟨hr.1, ?_⟩
  rcases hr.2 with h1 | ⟨g, c, cur, h1, h2, h3, h4⟩
  · exact .inl h1
  · rcases h.obj _ _ h3 with h5 | ⟨_, d, h5⟩
    · exact .inr ⟨g, c, cur, h1, h2, h5, h4⟩
    · cases h5

/-- what the loop of AppendSeq holds: rb its box -/
def AI (rb : Nat) (pre : List Int) (O : List Nat) (W : World) : Prop :=
  ∃ Ar cr, O = rb :: ablocks Ar ∧ W.cell? ⟨rb, 0, none⟩ = some (.slice Ar pre.length cr) ∧ W.frozen? ⟨rb, 0, none⟩ = false ∧
    OwnR W (rb + 1) 3 1 Ar pre.length cr (ints pre) ∧ rb < W.heap.size

theorem AI.footed (B rb : Nat) : Footed B (AI rb) := by
  rintro pre O S W W' ⟨Ar, cr, rfl, h1, h2, h3, h4⟩ hf hS hSB
  have m1 := hS rb (by simp)
  exact ⟨Ar, cr, rfl, hf.cell h1 m1, (hf.frozenE h4 m1).trans h2, h3.fr hf (fun a ha => hS _ (by simp [mem_ablocks]; exact .inr ⟨a, ha, rfl⟩)), Nat.lt_of_lt_of_le h4 hf.size⟩

set_option maxHeartbeats 1000000 in
set_option maxRecDepth 100000 in
/-- slices.AppendSeq, to no slice, at an iterator that gives xs -/
theorem appendSeq_any (xs : List Int) (hl : xs.length ≤ 17592186044415) (gf : Nat) (lb : Array Value) (eg : ∀ args w, (callFunc gf args).run Tryz.prog w = .ok (.enter gf args) w) (Pr : Nat → Prop) (w : World)
    (hit : ∀ n, IterF Tryz.prog n gf lb encI xs Pr w) (hPr : ∀ k, Pr k → k < w.heap.size) :
    Calls Tryz.prog 85 #[.slice none 0 0, .func (.func gf) #[] lb] w fun e w' =>
      ∃ A cap, e = .returned (.slice A xs.length cap) ∧ Fr [] w w' ∧ OwnR w' w.heap.size 3 1 A xs.length cap (ints xs) := by
  refine (callsIn_wide (n := 3)).1 ?_
  refine callsIn_of_wp_marks Tryz.func85 rfl trivial ?_
  simp only [Tryz.ntmps85, List.size_toArray, List.length_cons, List.length_nil, Nat.reduceAdd, Nat.reduceSub, Array.replicate_succ, Array.replicate_zero, List.push_toArray, List.append_toArray, List.nil_append, List.cons_append]
  gi_wp2
  obtain ⟨wl, hwl⟩ : ∃ wl, wl = w.alloc (.cells #[.slice none 0 0] 25) := ⟨_, rfl⟩
  have hfl : Fr [] w wl := by rw [hwl]; exact Fr.alloc1 _ _
  have hsl : wl.heap.size = w.heap.size + 1 := by rw [hwl]; simp
  have q3 : wl.cell? ⟨w.heap.size, 0, none⟩ = some (.slice none 0 0) := by rw [hwl]; go_simp
  have q4 : wl.frozen? ⟨w.heap.size, 0, none⟩ = false := by rw [hwl]; go_simp
  rw [← hwl]
  clear hwl
  refine wpIn_rangeFunc_foot (encs := encI) rfl eg (fun _ => rfl) (xs := xs) (Pr := Pr) (fun l J Jx W O0 hw => hit _ l J Jx W O0 (hfl.trans hw (by simp)))
    (by intro k hk; have := hPr k hk; omega) (AI w.heap.size) (fun _ _ _ _ => False) (AI.footed _ _) (fun _ _ _ _ _ _ h _ _ _ => h)
    [w.heap.size] ⟨none, 0, rfl, q3, q4, OwnR.nil _ _ _ _, by omega⟩ ?_ ?_ ?_ ?_
  · intro k hk
    simp at hk
    subst hk
    exact ⟨by omega, fun h => by have := hPr _ h; omega⟩
  · intro lp pre x W O hI hpre hlp hfW hOs hOn
    dsimp only [encI]
    gi_wp2
    refine ⟨Fr.refl _ _, ?_⟩
    intro W2 hf2 hl2 hs2 hI2
    have hwb := hf2.size
    clear hf2
    obtain ⟨Ar, cr, hOe, hrb, hrf, hrow, hrs⟩ := hI2
    have HOE := hid hOe
    clear hOe hI
    have hpl := hpre.length_le
    simp at hpl
    have hWl := hfW.size
    have hS2 := hid hs2
    clear hs2
    gi_wp2_with (gi_at_builtin; refine wpListIn_append1 _ rfl _ _ 25 rfl (w.heap.size + 1) 3 1 8 #[.int .i64 0] (by kernel_rfl) (by kernel_rfl) rfl (by omega) _ _ _ (ints pre) rfl (hrow.alloc _) W2.heap.size [.int .i64 x] rfl rfl (RowAt.new' _ _ _ _ rfl) (by simp [Value.oneCell']) (by omega) (by omega) (by simp; omega) ?_; intro A7 c7 w7 hown7 hfr7 hlies7; have hrb7 := hfr7.cell (((Fr.alloc1 W2 (.cells #[.int .i64 x] 3))).cell hrb (by simp)) (by { rw [mem_ablocks]; rintro ⟨a, h1, h2⟩; have := hrow.addr a h1; simp at h2; omega }); have hrf7 := (hfr7.frozenE (p := ⟨w.heap.size, 0, none⟩) (by simp; omega) (by { rw [mem_ablocks]; rintro ⟨a, h1, h2⟩; have := hrow.addr a h1; simp at h2; omega })).trans (((Fr.alloc1 W2 (.cells #[.int .i64 x] 3))).frozenE (p := ⟨w.heap.size, 0, none⟩) (by simp; omega) (by simp) |>.trans hrf))
    have hob := HOE.out
    have hfa : Fr [] W2 (W2.alloc (.cells #[.int .i64 x] 3)) := Fr.alloc1 _ _
    have h7s := hfr7.size
    simp only [World.size_alloc] at h7s
    refine ⟨?_, w.heap.size :: ablocks A7, ⟨A7, c7, rfl, ?_, ?_, ?_, ?_⟩, ?_, ?_⟩
    · rw [hob]
      refine Fr.setCell ?_ (.inl (by simp)) _
      refine Fr.trans (S' := ablocks Ar) ?_ hfr7 (fun k hk => .inl (by simp [hk]))
      exact hfa.weaken (by simp)
    · rw [World.cell?_setCell_same _ _ _ hrb7]; simp
    · rw [World.frozen?_setCell]; exact hrf7
    · have := hown7.setCell (p := ⟨w.heap.size, 0, none⟩) (.slice A7 (pre.length + 1) c7) (fun a ha => by have := hown7.addr a ha; simp; omega)
      simpa [ints] using this
    · simp; omega
    · intro k hk
      rw [hob]
      simp only [List.mem_cons, mem_ablocks] at hk ⊢
      rcases hk with h1 | ⟨a', h1, h2⟩
      · exact .inl (.inl h1)
      · rcases hlies7 a' h1 with ⟨a, h3, h4⟩ | h3
        · exact .inl (.inr ⟨a, h3, by omega⟩)
        · simp at h3; exact .inr (by omega)
    · intro k hk
      simp only [List.mem_cons, mem_ablocks] at hk
      simp only [World.size_setCell]
      rcases hk with h1 | ⟨a', h1, h2⟩
      · omega
      · have := hown7.addr a' h1; omega
  · intro D O W hD1 hD2 hI hfW hOn hDO hDk
    dsimp only
    obtain ⟨Ar, cr, hOe, hrb, hrf, hrow, hrs⟩ := hI
    have HOE := hid hOe
    clear hOe
    gi_wp2
    refine leaves_marks (N := w.heap.size) (ds := [{ target := .collected D, args := #[] }]) ⟨⟨D, rfl, by omega, hDk, by simp⟩, trivial⟩ (fun W' ht => ?_)
    refine ⟨_, results_tmp rfl _ _ _, _, _, rfl, ht.fr (hfl.trans hfW (by simp)) (Nat.le_refl _), ?_⟩
    exact ht.own (hrow.base (by omega))
  · intro D c pre O W _ _ _ hF
    exact hF.elim
end Go.Proofs.YtjmgjkcjnjlpdaaGreatDoor
