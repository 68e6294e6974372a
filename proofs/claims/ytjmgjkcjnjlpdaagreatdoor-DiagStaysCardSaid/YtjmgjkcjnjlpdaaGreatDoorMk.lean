/- sphenoidlaw22.DiagStays: a part of its proof: walks of the functions that it comes to, and plain laws (D34, D35, D36, D37). -/
import Derived.Test.YtjmgjkcjnjlpdaaGreatDoorMj
import Derived.Test.YtjmgjkcjnjlpdaaGreatDoorMc
import Derived.Test.YtjmgjkcjnjlpdaaGreatDoorMg
import Derived.Deep.RegionHeld3
set_option linter.unusedVariables false
set_option linter.unusedSimpArgs false
set_option linter.unusedSectionVars false
/-! ## D34 -/
namespace Go.Proofs.YtjmgjkcjnjlpdaaGreatDoor
open Go.RowKit

theorem mapInt : MapTy Tryz.prog 115 3 3 (Value.int .i64) (Value.int .i64) (.int .i64 0) where
  und := by kernel_rfl
  check w em key := by kernel_rfl
  stays w key := by simp [Instr.keyThatStays, Instr.sameBits]
  zero w := by kernel_rfl
  find w key kvs es h := find_of_int (k := 3) (by kernel_rfl) w key kvs es h

theorem MapAt.run_len {P : Program} {t k e : TypeId} {K V : Type} {ek : K → Value} {ev : V → Value} {w : World} {b : Nat} {kvs : List (K × V)} (h : MapAt w b ek ev kvs) (ht : P.underlying t = some (.map k e)) (ty : TypeId) :
    (Builtin.len_ #[t] ty #[.map (some b)]).run P w = .ok (.int .i64 kvs.length) w := by
  obtain ⟨es, cl, hb, hes⟩ := h
  have hl : es.size = kvs.length := by have := congrArg List.length hes; simpa using this
  simp [Builtin.len_, run_underlying ht, MapKept.run_getObj_map hb, goInt, Result.andThen, hl]

abbrev KV := List (Int × Int)
/-- a walk's record in memory (block pw; its maps mc, ma), all of it newer than w0 -/
structure WalkAt (w0 W : World) (pw mc ma q n : Nat) (kc ka : KV) (Ao : Option Addr) (co : Nat) (ord : List Nat) : Prop where
  fr : Fr [] w0 W
  p0 : W.cell? ⟨pw, 0, none⟩ = some (.map (some mc))
  p1 : W.cell? ⟨pw, 1, none⟩ = some (.map (some ma))
  p2 : W.cell? ⟨pw, 2, none⟩ = some (.slice Ao ord.length co)
  p3 : W.cell? ⟨pw, 3, none⟩ = some (.pointer (some ⟨q, 0, none⟩))
  pf : ∀ i, W.frozen? ⟨pw, i, none⟩ = false
  hc : MapAt W mc (Value.int .i64) (Value.int .i64) kc
  ha : MapAt W ma (Value.int .i64) (Value.int .i64) ka
  own : OwnR W w0.heap.size 3 1 Ao ord.length co (nats ord)
  kcs : kc.map (·.1) = ord.map (fun (k : Nat) => (k : Int))
  nd : ord.Nodup
  lt : ∀ k ∈ ord, k < n
  and : (ka.map (·.1)).Nodup
  alt : ∀ p ∈ ka, 0 ≤ p.1 ∧ p.1 < 2 * (n : Int)
  b0 : w0.heap.size ≤ pw
  b1 : w0.heap.size ≤ mc
  b2 : w0.heap.size ≤ ma
  s0 : pw < W.heap.size
  n0 : pw ≠ mc
  n1 : pw ≠ ma
  n2 : mc ≠ ma
  n3 : ∀ a, Ao = some a → a.block ≠ pw ∧ a.block ≠ mc ∧ a.block ≠ ma

theorem WalkAt.ordLe {w0 W : World} {pw mc ma q n kc ka Ao co ord} (h : WalkAt w0 W pw mc ma q n kc ka Ao co ord) : ord.length ≤ n := by
  have := h.nd.length_le_of_subset (l₂ := List.range n) (fun k hk => by simpa using h.lt k hk)
  simpa using this
theorem WalkAt.kaLe {w0 W : World} {pw mc ma q n kc ka Ao co ord} (h : WalkAt w0 W pw mc ma q n kc ka Ao co ord) : ka.length ≤ 2 * n := by
  have := h.and.length_le_of_subset (l₂ := (List.range (2 * n)).map (fun (k : Nat) => (k : Int))) (fun k hk => by
    obtain ⟨p, hp, rfl⟩ := List.mem_map.1 hk
    obtain ⟨h1, h2⟩ := h.alt p hp
    simp only [List.mem_map, List.mem_range]
    exact ⟨p.1.toNat, by omega, by omega⟩)
  simpa using this
theorem WalkAt.to {w0 W W' : World} {pw mc ma q n kc ka Ao co ord} (h : WalkAt w0 W pw mc ma q n kc ka Ao co ord) (hf : Fr [] W W') : WalkAt w0 W' pw mc ma q n kc ka Ao co ord :=
  { h with fr := h.fr.then hf, p0 := hf.cell h.p0 (by simp), p1 := hf.cell h.p1 (by simp), p2 := hf.cell h.p2 (by simp), p3 := hf.cell h.p3 (by simp),
           pf := fun i => (hf.frozenE (p := ⟨pw, i, none⟩) h.s0 (by simp)).trans (h.pf i), hc := hf.map h.hc (by simp), ha := hf.map h.ha (by simp), own := h.own.fr hf (by simp), s0 := Nat.lt_of_lt_of_le h.s0 hf.size }

set_option maxHeartbeats 1000000 in
set_option maxRecDepth 100000 in
theorem meet_any {w0 W : World} {pw mc ma q n kc ka Ao co ord} (h : WalkAt w0 W pw mc ma q n kc ka Ao co ord) (hn : n ≤ 200) (c : Nat) (hcn : c < n) :
    Calls Tryz.prog 53 #[.pointer (some ⟨pw, 0, none⟩), .int .i64 c] W fun e w' => (∃ v, e = .returned v) ∧ ∃ kc' Ao' co' ord', WalkAt w0 w' pw mc ma q n kc' ka Ao' co' ord' ∧ ord <+: ord' := by
  have p0 := h.p0
  have p2 := h.p2
  have s0 := h.s0
  cases hg : aget kc (c : Int) with
  | some v =>
    have HG := hid hg
    have HH := hid h
    clear hg h
    go_enter Tryz.func53, Tryz.ntmps53
    go_wp2_with (at_lookup; refine wpList_lookup_at _ rfl _ _ _ mapInt rfl HH.out.hc (c : Int) rfl rfl ?_; simp only [HG.out, Option.map, Option.getD, Option.isSome])
    go_end0
    exact ⟨⟨_, rfl⟩, kc, Ao, co, ord, HH.out, List.prefix_refl _⟩
  | none =>
    have hnew := aget_none.1 hg
    have HG := hid hg
    obtain ⟨W2, hrun, hm2, hg2, hs2⟩ := (show MapAt W.drew mc (Value.int .i64) (Value.int .i64) kc from h.hc).run_update mapInt (c : Int) (ord.length : Int)
    have HH := hid h
    have hle := h.ordLe
    clear hg h
    go_enter Tryz.func53, Tryz.ntmps53
    go_wp2_with (at_lookup; refine wpList_lookup_at _ rfl _ _ _ mapInt rfl HH.out.hc (c : Int) rfl rfl ?_; simp only [HG.out, Option.map, Option.getD, Option.isSome])
    go_region
    have hf2 : Fr [mc] W W2 := ((Fr.refl [mc] W).drew).grown hg2 (fun k hk => by cases hk; exact .inl (by simp))
    have hH := HH.out
    have p2' := hf2.cell p2 (by simp; exact hH.n0)
    have pf' : ∀ i, W2.frozen? ⟨pw, i, none⟩ = false := fun i => (hf2.frozenE (p := ⟨pw, i, none⟩) s0 (by simp; exact hH.n0)).trans (hH.pf i)
    have s0' := Nat.lt_of_lt_of_le s0 hf2.size
    have hown2 := hH.own.fr hf2 (fun a ha => by have := (hH.n3 a ha).2.1; simpa using this)
    have hw0 : w0.heap.size ≤ W2.heap.size := Nat.le_trans hH.fr.size hf2.size
    have HF2 := hid hf2
    have HM2 := hid hm2
    clear hrun hg2 hs2 p0 p2 s0 hf2 hm2 hH
    go_wp2_with (at_builtin; refine wpList_append1 _ rfl _ _ 25 rfl w0.heap.size 3 1 8 #[.int .i64 0] (by kernel_rfl) (by kernel_rfl) rfl (by omega) _ _ _ (nats ord) rfl (hown2.alloc _) W2.heap.size [.int .i64 c] rfl rfl (RowAt.new' _ _ _ _ rfl) (by simp [Value.oneCell']) (by omega) (by omega) (by simp; omega) ?_; intro A7 c7 w7 hown7 hfr7 hlies7; have f7 : Fr (ablocks Ao) W2 w7 := ((Fr.alloc1 W2 _).weaken (by simp)).trans hfr7 (fun k hk => .inl hk); have hpA : pw ∉ ablocks Ao := (by { rw [mem_ablocks]; rintro ⟨a, h1, h2⟩; exact ((HH.out.n3 a h1).1 h2) }); have pf7 : ∀ i, w7.frozen? ⟨pw, i, none⟩ = false := fun i => (f7.frozenE (p := ⟨pw, i, none⟩) s0' hpA).trans (pf' i); have p27 := f7.cell p2' hpA; have s7 := Nat.lt_of_lt_of_le s0' f7.size)
    go_end0
    have H := HH.out
    have hf2 := HF2.out
    have hmA : mc ∉ ablocks Ao := by rw [mem_ablocks]; rintro ⟨a, h1, h2⟩; exact (H.n3 a h1).2.1 h2
    have haA : ma ∉ ablocks Ao := by rw [mem_ablocks]; rintro ⟨a, h1, h2⟩; exact (H.n3 a h1).2.2 h2
    have hp2 : pw ∉ [mc] := by simp; exact H.n0
    have ha2 : ma ∉ [mc] := by simp; exact fun e => H.n2 e.symm
    have hA7 : ∀ a, A7 = some a → a.block ≠ pw ∧ a.block ≠ mc ∧ a.block ≠ ma := fun a ha => by
      rcases hlies7 a ha with ⟨a0, h1, h2⟩ | h1
      · have := H.n3 a0 h1; rw [h2]; exact this
      · have e1 := H.hc.lt
        have e2 := H.ha.lt
        have e3 := H.s0
        have e4 := hf2.size
        simp only [World.size_alloc] at h1
        exact ⟨by omega, by omega, by omega⟩
    refine ⟨⟨_, rfl⟩, aset kc (c : Int) (ord.length : Int), A7, c7, ord ++ [c], ?_, List.prefix_append _ _⟩
    have hka : aset kc (c : Int) (ord.length : Int) = kc ++ [((c : Int), (ord.length : Int))] := aset_new hnew
    have hcord : c ∉ ord := fun hm => hnew (by rw [H.kcs]; exact List.mem_map.2 ⟨c, hm, rfl⟩)
    exact {
      fr := ((H.fr.trans hf2 (fun k hk => by simp at hk; subst hk; exact .inr H.b1)).trans f7 (fun k hk => by
        obtain ⟨a, h1, h2⟩ := mem_ablocks.1 hk
        have := (H.own.addr a h1).1
        exact .inr (by omega))).setCell (.inr H.b0) _
      p0 := by rw [World.cell?_setCell_other _ _ _ _ (by simp)]; exact f7.cell (hf2.cell H.p0 hp2) hpA
      p1 := by rw [World.cell?_setCell_other _ _ _ _ (by simp)]; exact f7.cell (hf2.cell H.p1 hp2) hpA
      p2 := by rw [World.cell?_setCell_same _ _ _ p27]; simp
      p3 := by rw [World.cell?_setCell_other _ _ _ _ (by simp)]; exact f7.cell (hf2.cell H.p3 hp2) hpA
      pf := fun i => by rw [World.frozen?_setCell]; exact pf7 i
      hc := (f7.map HM2.out hmA).setCell _ _ (by simpa using fun e => H.n0 e.symm)
      ha := (f7.map (hf2.map H.ha ha2) haA).setCell _ _ (by simpa using fun e => H.n1 e.symm)
      own := by
        have := hown7.setCell (p := ⟨pw, 2, none⟩) (.slice A7 (ord.length + 1) c7) (fun a ha => (hA7 a ha).1)
        simpa [nats] using this
      kcs := by rw [hka]; simp [H.kcs]
      nd := List.nodup_append.2 ⟨H.nd, by simp, fun a ha b hb => by simp at hb; subst hb; rintro rfl; exact hcord ha⟩
      lt := fun k hk => by
        rcases List.mem_append.1 hk with hk | hk
        · exact H.lt k hk
        · simp at hk; omega
      and := H.and
      alt := H.alt
      b0 := H.b0
      b1 := H.b1
      b2 := H.b2
      s0 := by simpa using s7
      n0 := H.n0
      n1 := H.n1
      n2 := H.n2
      n3 := hA7 }
end Go.Proofs.YtjmgjkcjnjlpdaaGreatDoor

/-! ## D35 -/
namespace Go.Proofs.YtjmgjkcjnjlpdaaGreatDoor
open Go.RowKit

def leavF (x : Cr) (way : Nat) : Int := if way = 0 then x.c else x.arc (2 - x.s).toNat

set_option maxHeartbeats 400000 in
theorem leaving_any {n : Nat} (x : Cr) (hx : CrOk n x) (way : Nat) (w : World) :
    Calls Tryz.prog 55 #[.agg #[.int .i64 x.a, .int .i64 x.b, .int .i64 x.c, .int .i64 x.d, .int .i64 x.s], .int .i64 way] w fun e w' => (∃ a : Nat, e = .returned (.int .i64 a) ∧ a < 2 * n) ∧ Fr [] w w' := by
  obtain ⟨a, b, c, d, s⟩ := x
  obtain ⟨hs, a0, a1, b0, b1, c0, c1, d0, d1⟩ := hx
  simp only at hs a0 a1 b0 b1 c0 c1 d0 d1 ⊢
  obtain ⟨a, rfl⟩ := Int.eq_ofNat_of_zero_le a0
  obtain ⟨b, rfl⟩ := Int.eq_ofNat_of_zero_le b0
  obtain ⟨c, rfl⟩ := Int.eq_ofNat_of_zero_le c0
  obtain ⟨d, rfl⟩ := Int.eq_ofNat_of_zero_le d0
  have hf : Fr [] w (w.alloc (.cells #[.int .i64 (a : Int), .int .i64 (b : Int), .int .i64 (c : Int), .int .i64 (d : Int), .int .i64 s] 54)) := Fr.alloc1 _ _
  by_cases hw : way = 0
  · subst hw
    clear hs
    go_enter Tryz.func55, Tryz.ntmps55
    go_wp2
    go_ret
    exact ⟨⟨c, rfl, by omega⟩, hf⟩
  · have hq : ((way : Int) == 0) = false := by simp; omega
    clear hw
    rcases hs with rfl | rfl
    · go_enter Tryz.func55, Tryz.ntmps55
      go_wp2
      go_ret
      exact ⟨⟨b, rfl, by omega⟩, hf⟩
    · go_enter Tryz.func55, Tryz.ntmps55
      go_wp2
      go_ret
      exact ⟨⟨d, rfl, by omega⟩, hf⟩
end Go.Proofs.YtjmgjkcjnjlpdaaGreatDoor

/-! ## D36 -/
namespace Go.Proofs.YtjmgjkcjnjlpdaaGreatDoor
open Go.RowKit

theorem MapAt.set_own {w0 W W2 : World} {pw mc ma q n kc ka Ao co ord} (H : WalkAt w0 W pw mc ma q n kc ka Ao co ord) {a : Nat} (ha : a < 2 * n) (v : Int) (hnew : (a : Int) ∉ ka.map (·.1)) (hf : Fr [ma] W W2) (hm : MapAt W2 ma (Value.int .i64) (Value.int .i64) (aset ka (a : Int) v)) :
    WalkAt w0 W2 pw mc ma q n kc (ka ++ [((a : Int), v)]) Ao co ord := by
  have hp : pw ∉ [ma] := by simp; exact H.n1
  have hc : mc ∉ [ma] := by simp; exact H.n2
  rw [aset_new hnew] at hm
  exact { H with
    fr := H.fr.trans hf (fun k hk => by simp at hk; subst hk; exact .inr H.b2)
    p0 := hf.cell H.p0 hp
    p1 := hf.cell H.p1 hp
    p2 := hf.cell H.p2 hp
    p3 := hf.cell H.p3 hp
    pf := fun i => (hf.frozenE (p := ⟨pw, i, none⟩) H.s0 hp).trans (H.pf i)
    hc := hf.map H.hc hc
    ha := hm
    own := H.own.fr hf (fun a ha => by have := (H.n3 a ha).2.2; simpa using this)
    and := by
      rw [List.map_append, List.nodup_append]
      refine ⟨H.and, by simp, fun x hx y hy => ?_⟩
      simp at hy; subst hy
      rintro rfl; exact hnew hx
    alt := fun p hp => by
      rcases List.mem_append.1 hp with hp | hp
      · exact H.alt p hp
      · simp at hp; subst hp; simp; omega
    s0 := Nat.lt_of_lt_of_le H.s0 hf.size }

set_option maxHeartbeats 2000000 in
set_option maxRecDepth 100000 in
theorem strand_any {w0 W : World} {pw mc ma q kc ka Ao co ord} {A cap cs L B capB l} (hD : DiagAt w0 q A cap cs L B capB l) (hA : Arcs cs l) (h : WalkAt w0 W pw mc ma q cs.length kc ka Ao co ord) (a : Nat) (ha : a < 2 * cs.length) :
    Calls Tryz.prog 54 #[.pointer (some ⟨pw, 0, none⟩), .int .i64 a] W fun e w' => (∃ v, e = .returned v) ∧ ∃ kc' ka' Ao' co' ord', WalkAt w0 w' pw mc ma q cs.length kc' ka' Ao' co' ord' ∧ ord <+: ord' := by
  have hle := h.kaLe
  have HH := hid h
  have hn2 := hD.n2
  clear h
  go_enter Tryz.func54, Tryz.ntmps54
  go_wp2
  go_loopg [4] (2 * cs.length + 1 - ka.length) (fun k av wr => ∃ (a : Nat) (kc' ka' : KV) (Ao' : Option Addr) (co' : Nat) (ord' : List Nat), a < 2 * cs.length ∧ k + ka'.length = 2 * cs.length + 1 ∧ av = .int .i64 a ∧ WalkAt w0 wr pw mc ma q cs.length kc' ka' Ao' co' ord' ∧ ord <+: ord')
  case atStart => exact ⟨a, kc, ka, Ao, co, ord, ha, by omega, rfl, HH.out, List.prefix_refl _⟩
  case round =>
    obtain ⟨a, kc', ka', Ao', co', ord', ha, hk, rfl, H, hpre⟩ := hrel
    have p1 := H.p1
    have s0 := H.s0
    cases hg : aget ka' (a : Int) with
    | some v =>
      have HG := hid hg
      have HH := hid H
      clear hg H
      go_wp2_with (at_lookup; refine wpList_lookup_at _ rfl _ _ _ mapInt rfl HH.out.ha (a : Int) rfl rfl ?_; simp only [HG.out, Option.map, Option.getD, Option.isSome])
      exact bodyPost_ret (results_none rfl _ _ _) rfl ⟨⟨_, rfl⟩, kc', ka', Ao', co', ord', HH.out, hpre⟩
    | none =>
      have hnew := aget_none.1 hg
      have HG := hid hg
      obtain ⟨W2, hrun, hm2, hg2, hs2⟩ := (show MapAt wr.drew ma (Value.int .i64) (Value.int .i64) ka' from H.ha).run_update mapInt (a : Int) (ka'.length : Int)
      have hlen := (show MapAt wr.drew ma (Value.int .i64) (Value.int .i64) ka' from H.ha).run_len (P := Tryz.prog) (t := 115) (k := 3) (e := 3) (by kernel_rfl) 3
      have HH := hid H
      clear hg H
      go_wp2_with (at_lookup; refine wpList_lookup_at _ rfl _ _ _ mapInt rfl HH.out.ha (a : Int) rfl rfl ?_; simp only [HG.out, Option.map, Option.getD, Option.isSome])
      go_region
      have H2 := MapAt.set_own HH.out ha (ka'.length : Int) hnew (((Fr.refl [ma] wr).drew).grown hg2 (fun k hk => by cases hk; exact .inl (by simp))) hm2
      have hD2 := hD.fr H2.fr
      obtain ⟨bc, bp, ec, ep, xb, xe, hl1, -, -, -, -, hl2, -, -, -⟩ := hA.pl a ha
      have hec : ec < cs.length := (List.getElem?_eq_some_iff.1 hl2).1
      have hal : a < l.length := by rw [hA.len]; exact ha
      obtain ⟨b, off, rfl, hb0, -, -, e20, -⟩ := hD.ra.ae hl1
      have e2 := H2.fr.cell e20 (by simp)
      have hb := Nat.lt_of_lt_of_le hb0 H2.fr.size
      have d20 := hD.c2
      have d2 := hD2.c2
      have hq := hD2.lt
      have p3 := H2.p3
      have s2 := H2.s0
      obtain ⟨b', hb', hab⟩ := hA.next ha
      have HAB := hid hab
      have HD2 := hid hD2
      have HH2 := hid H2
      have HK := hid hk
      clear hrun hm2 hg2 hs2 hlen p1 s0 hnew hl1 hl2 H2 hD2 hab hk
      simp only at e2 e20
      have E20 := hid e20
      have D20 := hid d20
      clear e20 d20 hb0
      go_wp2_with fail
      go_region_held3 (fun V => V.cell? ⟨pw, 3, none⟩ = some (.pointer (some ⟨q, 0, none⟩)) ∧ V.cell? ⟨q, 2, none⟩ = some (.slice (some ⟨b, off, none⟩) l.length capB) ∧ V.cell? ⟨b, off + a * 4 + 2, none⟩ = some (.int .i64 ec)) (go_keep)
        (first
          | (go_at_call 53; refine (meet_any (HH2.out.to (Fr.refl _ _).drew) hn2 ec hec).mono ?_; rintro e w5 ⟨⟨v, rfl⟩, kc5, Ao5, co5, ord5, H5, hpre5⟩; have p35 := H5.p3; have d25 := H5.fr.cell D20.out (by simp); have e25 := H5.fr.cell E20.out (by simp)))
      have s5 := H5.s0
      have HH5 := hid H5
      clear p3 d2 e2 s2 hb hq H5 d25 e25
      go_wp2_with fail
      refine (next_any (hD.fr HH5.out.fr) a b' HAB.out).mono ?_
      rintro e w6 ⟨rfl, hf6⟩
      go_wp2
      have hk := HK.out
      have hkl := HH.out.kaLe
      go_roundg (gk - 1)
      case rel => exact ⟨b', kc5, _, Ao5, co5, ord5, hb', by simp; omega, rfl, HH5.out.to hf6, hpre.trans hpre5⟩
      case measure => have := HH5.out.kaLe; simp at this; omega
end Go.Proofs.YtjmgjkcjnjlpdaaGreatDoor

/-! ## D37 -/
namespace Go.Proofs.YtjmgjkcjnjlpdaaGreatDoor
open Go.RowKit

theorem WalkAt.made {w : World} {q n : Nat} (hq : q < w.heap.size) (W : World) (hW : W = (((w.alloc (.map #[] 0)).alloc (.map #[] 0)).alloc (.cells #[.map (some w.heap.size), .map (some (w.heap.size + 1)), .slice none 0 0, .pointer (some ⟨q, 0, none⟩)] 119))) :
    WalkAt w W (w.heap.size + 1 + 1) w.heap.size (w.heap.size + 1) q n [] [] none 0 [] := by
  subst hW
  exact {
    fr := ((Fr.alloc1 _ _).alloc _).alloc _
    p0 := by go_simp
    p1 := by go_simp
    p2 := by go_simp
    p3 := by go_simp
    pf := fun i => by go_simp
    hc := ((MapAt.made w _ _).alloc _).alloc _
    ha := by have := MapAt.made (w.alloc (.map #[] 0)) (Value.int .i64) (Value.int .i64); rw [World.size_alloc] at this; exact this.alloc _
    own := OwnR.nil _ _ _ _
    kcs := rfl
    nd := by simp
    lt := by simp
    and := by simp
    alt := by simp
    b0 := by omega
    b1 := Nat.le_refl _
    b2 := by omega
    s0 := by simp
    n0 := by omega
    n1 := by omega
    n2 := by omega
    n3 := fun a ha => by cases ha }

set_option maxHeartbeats 2000000 in
set_option maxRecDepth 100000 in
theorem code_any {w : World} {q : Nat} {A cap cs L B capB l} (hD : DiagAt w q A cap cs L B capB l) (hA : Arcs cs l) (hok : ∀ x ∈ cs, CrOk cs.length x) (c way : Nat) (hc : c < cs.length) :
    Calls Tryz.prog 37 #[.pointer (some ⟨q, 0, none⟩), .int .i64 c, .int .i64 way] w fun e w' => ∃ (A' : Option Addr) (c' : Nat) (rows : List Cr), e = .returned (.slice A' rows.length c') ∧ Fr [] w w' ∧ OwnR w' w.heap.size 84 5 A' rows.length c' (crCells rows) ∧ rows.length ≤ 200 := by
  have hmm := @run_makeMap Tryz.prog
  have hn2 := hD.n2
  have hq0 := hD.lt
  have d00 := hD.c0
  have HD := hid hD
  have HOK := hid hok
  clear hD hok
  go_enter Tryz.func37, Tryz.ntmps37
  go_wp2_with fail
  obtain ⟨W, hW⟩ : ∃ W, W = (((w.alloc (.map #[] 0)).alloc (.map #[] 0)).alloc (.cells #[.map (some w.heap.size), .map (some (w.heap.size + 1)), .slice none 0 0, .pointer (some ⟨q, 0, none⟩)] 119)) := ⟨_, rfl⟩
  have h0 := WalkAt.made (n := cs.length) hq0 W hW
  rw [← hW]
  clear hW
  refine (meet_any h0 hn2 c hc).mono ?_
  rintro e w1 ⟨⟨v, rfl⟩, kc1, Ao1, co1, ord1, h1, -⟩
  clear h0
  have hD1 := HD.out.fr h1.fr
  obtain ⟨b, off, hAe, hb, x0, x1, x2, x3, x4⟩ := hD1.rc.cr (List.getElem?_eq_getElem hc)
  have hxo := HOK.out _ (List.getElem_mem hc)
  generalize cs[c] = x at x0 x1 x2 x3 x4 hxo
  subst hAe
  have d0 := hD1.c0
  have hq := hD1.lt
  have H1 := hid h1
  have HXO := hid hxo
  clear hD1 h1 hxo
  go_wp2_with fail
  refine (leaving_any x HXO.out way w1).mono ?_
  rintro e w2 ⟨⟨a, rfl, ha⟩, hf2⟩
  go_wp2_with fail
  refine (strand_any HD.out hA (H1.out.to hf2) a ha).mono ?_
  rintro e w3 ⟨⟨v3, rfl⟩, kc3, ka3, Ao3, co3, ord3, h3, -⟩
  have H3 := hid h3
  clear hf2 h3 x0 x1 x2 x3 x4 d0 hq hb d00 hq0
  go_wp2
  go_loopw [8] (fun iv wr => ∃ (i : Nat) (kc ka : KV) (Ao : Option Addr) (co : Nat) (ord : List Nat), iv = .int .i64 i ∧ i ≤ ord.length ∧ WalkAt w wr (w.heap.size + 1 + 1) w.heap.size (w.heap.size + 1) q cs.length kc ka Ao co ord) (fun iv _ => cs.length - (intOf iv).toNat)
  case atStart => exact ⟨0, kc3, ka3, Ao3, co3, ord3, rfl, by omega, H3.out⟩
  case round =>
    obtain ⟨i, kc, ka, Ao, co, ord, rfl, hio, H⟩ := hrel
    clear H3
    have p2 := H.p2
    have s0 := H.s0
    have hol := H.ordLe
    have HH := hid H
    clear H
    by_cases hlt : i < ord.length
    · go_wp2
      go_loopw [50] (fun jv wr => ∃ (j : Nat) (kc ka : KV) (Ao : Option Addr) (co : Nat) (ord : List Nat), jv = .int .i64 j ∧ j ≤ 2 ∧ i < ord.length ∧ WalkAt w wr (w.heap.size + 1 + 1) w.heap.size (w.heap.size + 1) q cs.length kc ka Ao co ord) (fun jv _ => 2 - (intOf jv).toNat)
      case atStart => exact ⟨0, kc, ka, Ao, co, ord, rfl, by omega, hlt, HH.out⟩
      case round =>
        clear p2 s0 hol hlt hio
        obtain ⟨j, kc, ka, Ao, co, ord, rfl, hj, hlt, H⟩ := hrel
        have p2 := H.p2
        have s0 := H.s0
        have hol := H.ordLe
        by_cases hj2 : j < 2
        · have hjj : (j : Int) < 2 := by omega
          have hDr := HD.out.fr H.fr
          have d0 := hDr.c0
          have hq := hDr.lt
          obtain ⟨u, hu⟩ : ∃ u, ord[i]? = some u := ⟨ord[i], List.getElem?_eq_getElem hlt⟩
          have hun := H.lt u (List.mem_of_getElem? hu)
          obtain ⟨g, rfl⟩ : ∃ g, Ao = some ⟨g, 0, none⟩ := by
            rcases H.own.form with ⟨_, h2, _⟩ | h2
            · omega
            · exact h2
          have o0 := H.own.cellAt (i := i) (u := .int .i64 u) (by simp [nats, hu])
          have hgs := (H.own.addr _ rfl).2
          simp only at hgs
          obtain ⟨b, off, hAe, hb, x0, x1, x2, x3, x4⟩ := hDr.rc.cr (List.getElem?_eq_getElem hun)
          have hxo := HOK.out _ (List.getElem_mem hun)
          generalize cs[u] = x at x0 x1 x2 x3 x4 hxo
          cases hAe
          have HXO := hid hxo
          have HH := hid H
          clear hDr hu H hxo
          go_wp2_with fail
          go_region_with (first
            | (go_at_call 55; refine (leaving_any x HXO.out j wr.drew).mono ?_; rintro e w2 ⟨⟨a, rfl, ha⟩, hf2⟩)
            | (go_at_call 54; refine (strand_any HD.out hA ((HH.out.to (Fr.refl _ _).drew).to hf2) a ha).mono ?_; rintro e w3 ⟨⟨v3, rfl⟩, kc3, ka3, Ao3, co3, ord3, h3, hpre3⟩))
          all_goals
            have H3 := hid h3
            clear h3
            go_wp2
            go_roundw
            case rel => exact ⟨j + 1, kc3, ka3, Ao3, co3, ord3, by go_num, by omega, Nat.lt_of_lt_of_le hlt hpre3.length_le, H3.out⟩
            case measure => simp [intOf]; omega
        · obtain rfl : j = 2 := by omega
          have HH := hid H
          clear H
          go_wp2
          go_roundw
          case rel => exact ⟨i + 1, kc, ka, Ao, co, ord, by go_num, by omega, HH.out⟩
          case measure => simp [intOf]; omega
    · obtain rfl : i = ord.length := by omega
      go_wp2
      obtain ⟨wq, hwq⟩ : ∃ wq : World, wq = wr := ⟨_, rfl⟩
      rw [← hwq] at HH p2 s0 ⊢
      clear hwq
      go_loopw [79, 10] (fun iv sv wr => ∃ (rows : List Cr) (A' : Option Addr) (c' : Nat), rows.length ≤ ord.length ∧ iv = .int .i64 rows.length ∧ sv = .slice A' rows.length c' ∧ Fr [] wq wr ∧ OwnR wr wq.heap.size 84 5 A' rows.length c' (crCells rows)) (fun iv _ _ => ord.length - (intOf iv).toNat)
      case atStart => exact ⟨[], none, 0, by simp, rfl, rfl, Fr.refl _ _, OwnR.nil _ _ _ _⟩
      case round =>
        obtain ⟨rows, A', c', hrl, rfl, rfl, hfq, hown⟩ := hrel
        have H := HH.out.to hfq
        clear p2 s0
        by_cases hlt : rows.length < ord.length
        · obtain ⟨u, hu⟩ : ∃ u, ord[rows.length]? = some u := ⟨ord[rows.length], List.getElem?_eq_getElem hlt⟩
          have hun := H.lt u (List.mem_of_getElem? hu)
          obtain ⟨g, rfl⟩ : ∃ g, Ao = some ⟨g, 0, none⟩ := by
            rcases H.own.form with ⟨_, h2, _⟩ | h2
            · omega
            · exact h2
          have o0 := H.own.cellAt (i := rows.length) (u := .int .i64 u) (by simp [nats, hu])
          have hgs := (H.own.addr _ rfl).2
          simp only at hgs
          have hDr := HD.out.fr H.fr
          have d0 := hDr.c0
          have hq := hDr.lt
          obtain ⟨b, off, hAe, hb, x0, x1, x2, x3, x4⟩ := hDr.rc.cr (List.getElem?_eq_getElem hun)
          generalize cs[u] = x at x0 x1 x2 x3 x4
          cases hAe
          have s0 := H.s0
          have p1 := H.p1
          have HR := hid H
          clear hDr hu H
          obtain ⟨wo, hwo⟩ : ∃ wo : World, wo = wr := ⟨_, rfl⟩
          rw [← hwo] at o0 hgs d0 hq hb x0 x1 x2 x3 x4 s0 p1 HR hfq hown ⊢
          clear hwo
          go_wp2
          obtain ⟨W3, hW3⟩ : ∃ W3, W3 = ((wo.alloc (.cells #[.int .i64 x.a, .int .i64 x.b, .int .i64 x.c, .int .i64 x.d, .int .i64 x.s] 54)).alloc (.cells #[.int .i64 0, .int .i64 0, .int .i64 0, .int .i64 0, .int .i64 0] 84)) := ⟨_, rfl⟩
          have hf3 : Fr [] wo W3 := by rw [hW3]; exact (Fr.alloc1 _ _).alloc _
          have hrow0 : RowAt W3 (wo.heap.size + 1) 84 (Cr.mk 0 0 0 0 0).cells := by
            have := RowAt.new (wo.alloc (.cells #[.int .i64 x.a, .int .i64 x.b, .int .i64 x.c, .int .i64 x.d, .int .i64 x.s] 54)) 84 (Cr.mk 0 0 0 0 0).cells
            rw [World.size_alloc] at this
            rw [hW3]; exact this
          have xs4 : W3.cell? ⟨wo.heap.size, 4, none⟩ = some (.int .i64 x.s) := by rw [hW3]; go_simp
          have hsz : wo.heap.size + 2 = W3.heap.size := by rw [hW3]; simp
          rw [← hW3]
          have HSZ := hid hsz
          have hpx : wo.heap.size < W3.heap.size := by omega
          clear hW3 o0 hgs d0 hq hb x0 x1 x2 x3 x4 s0 p1 hsz
          go_loopw [93] (fun jv wi => ∃ (j : Nat) (y : Cr), j ≤ 4 ∧ jv = .int .i64 j ∧ Fr [wo.heap.size + 1] W3 wi ∧ RowAt wi (wo.heap.size + 1) 84 y.cells) (fun jv _ => 4 - (intOf jv).toNat)
          case atStart => exact ⟨0, ⟨0, 0, 0, 0, 0⟩, by omega, rfl, Fr.refl _ _, hrow0⟩
          case round =>
            obtain ⟨j, y, hj, rfl, hfi, hrow⟩ := hrel
            have hofi : Fr [] wo wr := hf3.trans hfi (by simp)
            have HA := HR.out.to hofi
            by_cases hj4 : j < 4
            · have harr : ∀ W, (Instr.index 52 (.agg #[.int .i64 x.a, .int .i64 x.b, .int .i64 x.c, .int .i64 x.d]) (.int .i64 (j : Int))).run Tryz.prog W = .ok (.int .i64 (x.arc j)) W := arr4 x.a x.b x.c x.d x.s j hj4
              have zj : wr.cell? ⟨wo.heap.size + 1, j, none⟩ = some (.int .i64 (y.arc j)) := by rw [hrow.cell]; exact Cr.cells_arc y j hj4
              have zf := fun i => hrow.frozen i
              have hzlt := hrow.lt
              generalize x.arc j = xa at harr
              obtain ⟨v, hv⟩ : ∃ v, ((aget ka xa).map (Value.int .i64)).getD (.int .i64 0) = .int .i64 v := by
                cases aget ka xa with
                | none => exact ⟨0, rfl⟩
                | some v => exact ⟨v, rfl⟩
              have HV := hid hv
              have p1 := HA.p1
              have s0 := HA.s0
              have hj4' : (j : Int) < 5 := by omega
              have hj4'' : (j : Int) < 4 := by omega
              have HR2 := hid hrow
              have HHA := hid HA
              clear hrow hv HA
              go_wp2_with (at_lookup; refine wpList_lookup_at _ rfl _ _ _ mapInt rfl HHA.out.ha xa rfl rfl ?_; simp only [HV.out, Bool.false_eq_true, if_false])
              go_roundw
              case rel => exact ⟨j + 1, y.setArc j v, by omega, by go_num, hfi.setCell (.inl (by simp)) _, by rw [← Cr.setArc_cells y v j hj4]; exact HR2.out.set j _⟩
              case measure => simp [intOf]; omega
            · obtain rfl : j = 4 := by omega
              have z4 : wr.cell? ⟨wo.heap.size, 4, none⟩ = some (.int .i64 x.s) := hfi.cell xs4 (by simp)
              obtain ⟨ya, yb, yc, yd, ys'⟩ := y
              have hset := hrow.set 4 (.int .i64 x.s)
              have y4 : wr.cell? ⟨wo.heap.size + 1, 4, none⟩ = some (.int .i64 ys') := hrow.cell 4
              have y0 : wr.cell? ⟨wo.heap.size + 1, 0, none⟩ = some (.int .i64 ya) := hrow.cell 0
              have y1 : wr.cell? ⟨wo.heap.size + 1, 1, none⟩ = some (.int .i64 yb) := hrow.cell 1
              have y2 : wr.cell? ⟨wo.heap.size + 1, 2, none⟩ = some (.int .i64 yc) := hrow.cell 2
              have y3 : wr.cell? ⟨wo.heap.size + 1, 3, none⟩ = some (.int .i64 yd) := hrow.cell 3
              have zf := fun i => hrow.frozen i
              have hzlt := hrow.lt
              have hpx' : wo.heap.size < wr.heap.size := by omega
              have hown2 := hown.fr hofi (by simp)
              have hown3 := hown2.setCell (p := ⟨wo.heap.size + 1, 4, none⟩) (.int .i64 x.s) (fun a ha => by have := (hown.addr a ha).2; simp; omega)
              have hqo := hfq.size
              have hoi := hofi.size
              have hol := HA.ordLe
              have HSET := hid hset
              clear hrow hset HA
              go_wp2_with (at_builtin; refine wpList_append1 _ rfl _ _ 79 rfl wq.heap.size 84 5 40 #[.int .i64 0, .int .i64 0, .int .i64 0, .int .i64 0, .int .i64 0] (by kernel_rfl) (by kernel_rfl) rfl (by omega) _ _ _ (crCells rows) rfl (hown3.alloc _) wr.heap.size [.int .i64 ya, .int .i64 yb, .int .i64 yc, .int .i64 yd, .int .i64 x.s] rfl rfl (RowAt.new' _ _ _ _ (by simp)) (by simp [Value.oneCell']) (by omega) (by omega) (by simp; omega) ?_; intro A7 c7 w7 hown7 hfr7 hlies7)
              go_roundw
              case rel =>
                refine ⟨rows ++ [⟨ya, yb, yc, yd, x.s⟩], A7, c7, by simp; omega, by simp, by simp, ?_, by simpa [crCells, Cr.cells] using hown7⟩
                refine ((hfq.then hofi).setCell (.inr (by simp; omega)) _).alloc _ |>.trans hfr7 (fun k hk => .inr ?_)
                obtain ⟨a, h1, h2⟩ := mem_ablocks.1 hk
                have := (hown.addr a h1).1
                omega
              case measure => simp [intOf]; omega
        · obtain hrr : rows.length = ord.length := by omega
          clear hlt
          go_wp2
          go_ret
          exact ⟨A', c', rows, rfl, HH.out.fr.then hfq, hown.base HH.out.fr.size, by have := HH.out.ordLe; omega⟩
end Go.Proofs.YtjmgjkcjnjlpdaaGreatDoor
