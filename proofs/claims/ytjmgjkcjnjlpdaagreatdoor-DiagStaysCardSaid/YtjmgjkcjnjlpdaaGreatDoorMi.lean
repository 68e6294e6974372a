/- sphenoidlaw22.DiagStays: a part of its proof: walks of the functions that it comes to, and plain laws (D27, D28, D29, D30). -/
import Derived.Test.YtjmgjkcjnjlpdaaGreatDoorMh
import Derived.Test.YtjmgjkcjnjlpdaaGreatDoorShelf
import Derived.Lib.OwnBridge
import Derived.Test.YtjmgjkcjnjlpdaaGreatDoorMd
import Derived.BigQuiet
import Derived.Deep.RegionHeld3
import Derived.Test.YtjmgjkcjnjlpdaaGreatDoorMf
set_option linter.unusedVariables false
set_option linter.unusedSimpArgs false
set_option linter.unusedSectionVars false
/-! ## D27 -/
namespace Go.Proofs.YtjmgjkcjnjlpdaaGreatDoor
open Go.RowKit

/-- the library's table reads as it is laid -/
def TabAt (w : World) : Prop := Lib.TabIs Tryz.prog w "internal/strconv.uint64pow10" .u64 Lib.pow10Tab
theorem TabAt.fr {w w' : World} (h : TabAt w) (hf : Fr [] w w') : TabAt w' := by
  unfold TabAt Lib.TabIs World.var? at *
  cases hg : Tryz.prog.globalNamed "internal/strconv.uint64pow10" with
  | none => simp [hg] at h
  | some g =>
    rw [hg] at h
    simp only [Option.bind_some] at h ⊢
    cases ho : w.heap[g]? with
    | none => rw [ho] at h; cases h
    | some o => rw [hf.heap ho (by simp), ← ho]; exact h

def bs (l : List UInt8) : ByteArray := ⟨l.toArray⟩
theorem bs_app (a b : List UInt8) : bs a ++ bs b = bs (a ++ b) := by
  apply ByteArray.ext
  simp [bs]
theorem bs_size (a : List UInt8) : (bs a).size = a.length := by simp [bs, ByteArray.size]

theorem OwnR.capLe {w : World} {base : Nat} {e : TypeId} {k : Nat} {A : Option Addr} {n cap : Nat} {xs : List Value} (h : OwnR w base e k A n cap xs) : n ≤ cap := by
  rcases h.2 with ⟨h1, h2⟩ | ⟨g, c, cur, h1, _, _, h4, _⟩
  · cases h1; omega
  · cases h1; exact h4

theorem Fr.growS {S : List Nat} {a b : World} (h : Fr S a b) (os : Array Obj) : Fr S a (Sort.grow b os) :=
  ⟨h.os, h.tape, h.output, by simp [Sort.grow]; have := h.size; omega, fun k hk hn => by
    rw [← h.block k hk hn]
    have := h.size
    simp [Sort.grow, Array.getElem?_append_left (show k < b.heap.size by omega)]⟩

theorem itoa_any (n : Int) (h0 : 0 ≤ n) (h1 : n ≤ 1000) (w : World) (hT : TabAt w) : Calls Tryz.prog 22 #[.int .i64 n] w fun e w' => e = .returned (.string (bs (Lib.itoa n))) ∧ Fr [] w w' :=
  (Tryz.strconv_Itoa n (by omega) (by omega) w hT).mono fun e w' ⟨h1, k, os, h2⟩ => ⟨h1, by rw [h2]; exact ((Fr.refl [] w).drewN k).growS os⟩

theorem join_any (xs : List (List UInt8)) (A : Option Addr) (cap : Nat) (sep : List UInt8) (w : World) (hr : Rd w A (xs.map fun x => .string (bs x))) (hc : xs.length ≤ cap) (hN : xs.length ≤ 1000) (hlen : (Lib.join xs sep).length ≤ 140737488355328) :
    Calls Tryz.prog 23 #[.slice A xs.length cap, .string (bs sep)] w fun e w' => e = .returned (.string (bs (Lib.join xs sep))) ∧ Fr [] w w' := by
  by_cases hx : xs = []
  · subst hx
    exact (Tryz.strings_Join_none A cap (bs sep) w).mono fun e w' ⟨h1, h2⟩ => ⟨by rw [h1]; rfl, by rw [h2]; exact Fr.refl _ _⟩
  · have hne : (xs.map fun x => Value.string (bs x)) ≠ [] := by simpa using hx
    obtain ⟨b, off, rfl, hb, hcs⟩ := hr hne
    have hd : ((xs.map bs).map (·.data.toList)) = xs := by
      rw [List.map_map]
      conv => rhs; rw [← List.map_id xs]
      exact List.map_congr_left (fun x _ => by simp [bs])
    have hsd : (bs sep).data.toList = sep := by simp [bs]
    have := Tryz.strings_Join b off cap (xs.map bs) (bs sep) w (fun j x hj => by
      rw [List.getElem?_map] at hj
      obtain ⟨y, hy, rfl⟩ := Option.map_eq_some_iff.1 hj
      exact hcs j _ (by rw [List.getElem?_map, hy]; rfl)) hb (by simp; omega) (by simpa using hc) (by rw [hd, hsd]; exact hlen)
    rw [List.length_map, hd, hsd] at this
    exact this.mono fun e w' ⟨h1, h2⟩ => ⟨h1, Fr.of_below h2⟩

def leI (x y : Int) : Bool := decide (x ≤ y)

/-- slices.Sort at a slice of the call's own -/
theorem sort_own (zs : List Int) (A : Option Addr) (cap : Nat) (base : Nat) (w : World) (hown : OwnR w base 3 1 A zs.length cap (ints zs)) (hl : zs.length ≤ 17592186044415) :
    Calls Tryz.prog 66 #[.slice A zs.length cap] w fun e w' => e = .returned (.tuple #[]) ∧ OwnR w' base 3 1 A zs.length cap (ints (zs.mergeSort leI)) ∧ Fr (ablocks A) w w' := by
  rcases hown.form with ⟨rfl, h2, rfl, _⟩ | ⟨g, rfl⟩
  · rw [h2]
    have hz : zs = [] := List.eq_nil_of_length_eq_zero h2
    subst hz
    exact (Tryz.slices_Sort_int_none none 0 w).mono fun e w' ⟨h3, h4⟩ => ⟨h3, by rw [h4]; simpa using hown, by rw [h4]; exact Fr.refl _ _⟩
  · obtain ⟨g', c', he, _, hg, _, _, _, hH⟩ := Lib.holds_of_ownsRow (enc := Value.int .i64) (zs := zs) hown (by simp)
    cases he
    refine (Tryz.slices_Sort_int g 0 cap zs w hH hg (by omega)).mono ?_
    rintro e w' ⟨rfl, n, os, rfl⟩
    have hb : Fr (ablocks (some ⟨g, 0, none⟩)) w (Sort.putRow (Value.int .i64) (Sort.ahead w n) g 0 (zs.mergeSort fun x y => decide (x ≤ y)).toArray) := by
      refine ⟨rfl, rfl, rfl, by simp [Sort.putRow, Sort.mapBlock, Sort.ahead], fun k hk hn => ?_⟩
      have hkg : g ≠ k := by rintro rfl; exact hn (by simp [ablocks])
      simp [Sort.putRow, Sort.mapBlock, Sort.ahead, Array.getElem?_modify, hkg]
    have hs := Lib.ownsRow_putRow (enc := Value.int .i64) (q := n) (k := zs.length) (ys := zs.mergeSort leI) hown (by simp) (Nat.le_refl _)
    rw [List.take_of_length_le (by simp)] at hs
    refine ⟨rfl, ?_, hb.growS os⟩
    have hs' : OwnR _ base 3 1 (some ⟨g, 0, none⟩) zs.length cap (ints (zs.mergeSort leI)) := hs
    exact hs'.fr ((Fr.refl [] _).growS os) (by simp)
end Go.Proofs.YtjmgjkcjnjlpdaaGreatDoor

/-! ## D28 -/
namespace Go.Proofs.YtjmgjkcjnjlpdaaGreatDoor
open Go.RowKit

/-! ### the text -/
theorem decDigits_len : ∀ (n u : Nat), u ≤ n → (Lib.decDigits u).length ≤ u + 1
  | n, u, h => by
    rw [Lib.decDigits]
    split
    · simp
    · rename_i h10
      have : u / 10 < u := by omega
      match n with
      | 0 => omega
      | n + 1 =>
        have := decDigits_len n (u / 10) (by omega)
        simp
        omega
theorem itoa_len {n : Int} (h0 : 0 ≤ n) (h1 : n ≤ 1000) : (Lib.itoa n).length ≤ 1001 := by
  unfold Lib.itoa
  rw [if_neg (by omega)]
  have := decDigits_len _ n.toNat (Nat.le_refl _)
  omega

def sgnT (x : Cr) : UInt8 := if x.s < 0 then 45 else 43
/-- the sign and p arcs -/
def crTextN (x : Cr) (p : Nat) : List UInt8 := sgnT x :: ((List.range p).flatMap fun q => 32 :: Lib.itoa (x.arc q))
def crText (x : Cr) : List UInt8 := crTextN x 4
def textF (cs : List Cr) (L : Int) : List UInt8 := if cs = [] then Lib.itoa L else Lib.join (cs.map crText) [59, 32] ++ [32, 124, 32] ++ Lib.itoa L
theorem crTextN_succ (x : Cr) (p : Nat) : crTextN x (p + 1) = crTextN x p ++ 32 :: Lib.itoa (x.arc p) := by
  simp [crTextN, List.range_succ]
theorem crTextN_len {n : Nat} (hn : n ≤ 200) {x : Cr} (hx : CrOk n x) : ∀ (p : Nat), (crTextN x p).length ≤ 1 + 1002 * p
  | 0 => by simp [crTextN]
  | p + 1 => by
    have h1 := crTextN_len hn hx p
    rw [crTextN_succ]
    have h2 : 0 ≤ x.arc p ∧ x.arc p ≤ 1000 := by
      obtain ⟨_, _, _, _, _, _, _, _, _⟩ := hx
      match p with
      | 0 => simp only [Cr.arc]; omega
      | 1 => simp only [Cr.arc]; omega
      | 2 => simp only [Cr.arc]; omega
      | _ + 3 => simp only [Cr.arc]; omega
    have := itoa_len h2.1 h2.2
    simp
    omega
theorem join_len (sep : List UInt8) : ∀ (xs : List (List UInt8)) (m : Nat), (∀ x ∈ xs, x.length ≤ m) → (Lib.join xs sep).length ≤ xs.length * (m + sep.length)
  | [], _, _ => by simp [Lib.join]
  | [x], m, h => by
    have := h x (by simp)
    simp [Lib.join, List.intercalate]
    omega
  | x :: y :: r, m, h => by
    have h1 := h x (by simp)
    have h2 := join_len sep (y :: r) m (fun z hz => h z (by simp [hz]))
    have e : (Lib.join (x :: y :: r) sep) = x ++ sep ++ Lib.join (y :: r) sep := by simp [Lib.join, List.intercalate, List.intersperse]
    rw [e]
    simp only [List.length_append, List.length_cons] at h2 ⊢
    rw [Nat.add_mul _ 1]
    omega

def TextPost (w : World) (r : Int) (cs : List Cr) (L : Int) (e : Ending) (w' : World) : Prop :=
  Fr [] w w' ∧ ((r ≠ 0 ∧ e = .returned (.tuple #[.string ⟨#[]⟩, .int .i64 r])) ∨ (r = 0 ∧ e = .returned (.tuple #[.string (bs (textF cs L)), .int .i64 0])))

set_option maxHeartbeats 2000000 in
set_option maxRecDepth 100000 in
theorem text_any (cs : List Cr) (A : Option Addr) (cap : Nat) (L : Int) (w : World) (hr : Rd w A (crCells cs)) (hT : TabAt w) (R : Int × List AE) (hR : enterF cs L = some R) (hok : R.1 = 0 → (∀ x ∈ cs, CrOk cs.length x) ∧ cs.length ≤ 200 ∧ 0 ≤ L ∧ L ≤ 200) :
    Calls Tryz.prog 5 #[.agg #[.slice A cs.length cap, .int .i64 L]] w (TextPost w R.1 cs L) := by
  have HR := hid hR
  clear hR
  obtain ⟨r1, l⟩ := R
  have HOK := hid hok
  clear hok
  go_enter Tryz.func5, Tryz.ntmps5
  go_wp2_with fail
  obtain ⟨W, hW⟩ : ∃ W, W = w.alloc (.cells #[.slice A cs.length cap, .int .i64 L] 24) := ⟨_, rfl⟩
  have hfW : Fr [] w W := by rw [hW]; exact Fr.alloc1 _ _
  have c0 : W.cell? ⟨w.heap.size, 0, none⟩ = some (.slice A cs.length cap) := by rw [hW]; go_simp
  have c1 : W.cell? ⟨w.heap.size, 1, none⟩ = some (.int .i64 L) := by rw [hW]; go_simp
  have hs0 : w.heap.size < W.heap.size := by rw [hW]; simp
  rw [← hW]
  clear hW
  have hrW := hr.fr0 hfW
  have hTW := hT.fr hfW
  refine (enter_any cs A cap L _ hrW _ HR.out).mono ?_
  rintro e w1 ⟨hf, ⟨h0, rfl⟩ | ⟨h0, q, B, rfl, hD⟩⟩
  · simp only at h0
    have h0' : (r1 != 0) = true := by simpa using h0
    go_wp2
    go_ret2
    exact ⟨hfW.then hf, .inl ⟨h0, rfl⟩⟩
  · simp only at h0
    subst h0
    obtain ⟨hok, hn, hL0, hL1⟩ := HOK.out rfl
    replace c0 := hf.cell c0 (by simp)
    replace c1 := hf.cell c1 (by simp)
    replace hs0 := Nat.lt_of_lt_of_le hs0 hf.size
    have hr1 := hrW.fr0 hf
    have hT1 := hTW.fr hf
    have hfw1 := hfW.then hf
    clear hrW hTW hT hr hD hf hfW
    go_wp2_with fail
    go_loopw [23, 6] (fun iv sv wr => ∃ (k : Nat) (A' : Option Addr) (c' : Nat), k ≤ cs.length ∧ iv = .int .i64 k ∧ sv = .slice A' k c' ∧ Fr [] w1 wr ∧ OwnR wr w1.heap.size 9 1 A' k c' ((cs.take k).map fun x => .string (bs (crText x)))) (fun iv _ _ => cs.length - (intOf iv).toNat)
    case atStart => exact ⟨0, none, 0, by omega, rfl, rfl, Fr.refl _ _, by simpa using OwnR.nil _ _ _ _⟩
    case round =>
      obtain ⟨k, A', c', hk, rfl, rfl, hf2, hown⟩ := hrel
      replace c0 := hf2.cell c0 (by simp)
      replace c1 := hf2.cell c1 (by simp)
      replace hs0 := Nat.lt_of_lt_of_le hs0 hf2.size
      have hrk := hr1.fr0 hf2
      have hTk := hT1.fr hf2
      have hfwk := hfw1.then hf2
      have hw1s := hf2.size
      by_cases hlt : k < cs.length
      · have htk : (cs.take (k + 1)) = cs.take k ++ [cs[k]] := by rw [List.take_add_one, List.getElem?_eq_getElem hlt]; rfl
        have hxo := hok cs[k] (List.getElem_mem hlt)
        obtain ⟨b, off, rfl, hb, x0, x1, x2, x3, x4⟩ := hrk.cr (List.getElem?_eq_getElem hlt)
        generalize cs[k] = x at x0 x1 x2 x3 x4 htk hxo
        have HTK := hid htk
        clear htk hrk hT1 hr1
        obtain ⟨sb, hsb⟩ : ∃ sb : Bool, decide (x.s < 0) = sb := ⟨_, rfl⟩
        have hsg : sgnT x = if sb = true then 45 else 43 := by unfold sgnT; rw [← hsb]; simp
        have HSG := hid hsg
        clear hsg
        have hlx : ∀ p, p ≤ 4 → (crTextN x p).length ≤ 4009 := fun p hp => by have := crTextN_len hn hxo p; omega
        have HO := hid hxo
        clear hxo
        cases sb
        all_goals
          have hsb' := hsb
          simp only [decide_eq_true_eq, decide_eq_false_iff_not] at hsb'
          clear hsb
          go_wp2
          obtain ⟨W2, hW2⟩ : ∃ W2, W2 = wr.alloc (.cells #[.int .i64 x.a, .int .i64 x.b, .int .i64 x.c, .int .i64 x.d, .int .i64 x.s] 54) := ⟨_, rfl⟩
          have hf3 : Fr [] wr W2 := by rw [hW2]; exact Fr.alloc1 _ _
          rw [← hW2]
          clear hW2
          have hT2 := hTk.fr hf3
          have hown2 := hown.fr hf3 (by simp)
          go_loopw [32, 9] (fun iv sv wq => ∃ (p : Nat), p ≤ 4 ∧ iv = .int .i64 p ∧ sv = .string (bs (crTextN x p)) ∧ Fr [] W2 wq) (fun iv _ _ => 4 - (intOf iv).toNat)
          case atStart => exact ⟨0, by omega, rfl, by simp only [crTextN, HSG.out]; rfl, Fr.refl _ _⟩
          case round =>
            obtain ⟨p, hp, rfl, rfl, hf4⟩ := hrel
            have hTp := hT2.fr hf4
            by_cases hp4 : p < 4
            · have harr : ∀ W, (Instr.index 52 (.agg #[.int .i64 x.a, .int .i64 x.b, .int .i64 x.c, .int .i64 x.d]) (.int .i64 (p : Int))).run Tryz.prog W = .ok (.int .i64 (x.arc p)) W := arr4 x.a x.b x.c x.d x.s p hp4
              have hlp := hlx p (by omega)
              have hxa : 0 ≤ x.arc p ∧ x.arc p ≤ 1000 := by
                obtain ⟨_, _, _, _, _, _, _, _, _⟩ := HO.out
                match p, hp4 with
                | 0, _ => simp only [Cr.arc]; omega
                | 1, _ => simp only [Cr.arc]; omega
                | 2, _ => simp only [Cr.arc]; omega
                | 3, _ => simp only [Cr.arc]; omega
              have hsc := crTextN_succ x p
              generalize x.arc p = av at harr hxa hsc
              have HSC := hid hsc
              clear hsc
              have hil := itoa_len hxa.1 hxa.2
              rw [← bs_size] at hil hlp
              have hsp : (({ data := #[32] } : ByteArray) ++ bs (Lib.itoa av)).size ≤ 1002 := by rw [ByteArray.size_append]; have : ({ data := #[32] } : ByteArray).size = 1 := rfl; omega
              have hp4' : (p : Int) < 4 := by omega
              go_wp2_with fail
              refine (itoa_any av hxa.1 hxa.2 _ hTp).mono ?_
              rintro e w5 ⟨rfl, hf5⟩
              go_wp2
              go_roundw
              case rel => exact ⟨p + 1, by omega, by simp, by rw [HSC.out, ← bs_app]; rfl, hf4.then hf5⟩
              case measure => simp [intOf]; omega
            · obtain rfl : p = 4 := by omega
              have hown4 := hown2.fr hf4 (by simp)
              have hf34 := hf3.then hf4
              have hws := hf34.size
              go_wp2_with (at_builtin; refine wpList_append1 _ rfl _ _ 51 rfl w1.heap.size 9 1 16 #[.string ⟨#[]⟩] (by kernel_rfl) (by kernel_rfl) rfl (by omega) _ _ _ ((cs.take k).map fun x => .string (bs (crText x))) rfl (hown4.alloc _) wr.heap.size [.string (bs (crTextN x 4))] rfl rfl (RowAt.new' _ _ _ _ rfl) (by simp [Value.oneCell']) (by omega) (by omega) (by simp; omega) ?_; intro A7 c7 w7 hown7 hfr7 hlies7)
              go_roundw
              case rel =>
                refine ⟨k + 1, A7, c7, by omega, by simp, rfl, ((hf2.then hf34).alloc _).trans hfr7 (fun i hi => .inr ?_), by rw [HTK.out]; simpa [crText] using hown7⟩
                obtain ⟨a, h1, h2⟩ := mem_ablocks.1 hi
                have := (hown.addr a h1).1
                omega
              case measure => simp [intOf]; omega
      · obtain rfl : k = cs.length := by omega
        rw [List.take_length] at hown
        have hrj := hown.rd
        have hcap := hown.capLe
        have hil := itoa_len hL0 (by omega)
        by_cases hcs : cs = []
        · subst hcs
          go_wp2_with fail
          refine (itoa_any L hL0 (by omega) _ hTk).mono ?_
          rintro e w5 ⟨rfl, hf5⟩
          go_wp2
          go_ret2
          exact ⟨hfwk.then hf5, .inr ⟨rfl, rfl⟩⟩
        · have hne : ((cs.length : Int) == 0) = false := by
            have : cs.length ≠ 0 := fun h => hcs (List.eq_nil_of_length_eq_zero h)
            simp; omega
          have hjl : (Lib.join (cs.map crText) [59, 32]).length ≤ 200 * 4011 := by
            have h1 := join_len [59, 32] (cs.map crText) 4009 (by
              intro z hz
              obtain ⟨x, hx, rfl⟩ := List.mem_map.1 hz
              have := crTextN_len hn (hok x hx) 4
              unfold crText
              omega)
            refine Nat.le_trans h1 ?_
            simp only [List.length_map, List.length_cons, List.length_nil]
            exact Nat.mul_le_mul hn (by omega)
          have hj2 := hjl
          rw [← bs_size] at hil hj2
          have hsp : (bs (Lib.join (cs.map crText) [59, 32]) ++ ({ data := #[32, 124, 32] } : ByteArray)).size ≤ 802203 := by rw [ByteArray.size_append]; have : ({ data := #[32, 124, 32] } : ByteArray).size = 3 := rfl; omega
          have hsp3 : ({ data := #[32, 124, 32] } : ByteArray).size = 3 := rfl
          have htx : textF cs L = Lib.join (cs.map crText) [59, 32] ++ [32, 124, 32] ++ Lib.itoa L := by unfold textF; rw [if_neg hcs]
          have HTX := hid htx
          clear htx hcs
          have hjn : ∀ W, Fr [] wr W → Calls Tryz.prog 23 #[.slice A' cs.length c', .string ⟨#[59, 32]⟩] W fun e w' => e = .returned (.string (bs (Lib.join (cs.map crText) [59, 32]))) ∧ Fr [] W w' := fun W hW => by
            have := join_any (cs.map crText) A' c' [59, 32] W (by rw [List.map_map]; exact hrj.fr0 hW) (by simp; exact hcap) (by simp; omega) (by omega)
            rw [List.length_map] at this
            exact this
          obtain ⟨js, hjs⟩ : ∃ js, bs (Lib.join (cs.map crText) [59, 32]) = js := ⟨_, rfl⟩
          obtain ⟨ts, hts⟩ : ∃ ts, bs (Lib.itoa L) = ts := ⟨_, rfl⟩
          have hita : ∀ W, TabAt W → Calls Tryz.prog 22 #[.int .i64 L] W fun e w' => e = .returned (.string ts) ∧ Fr [] W w' := fun W hW => by rw [← hts]; exact itoa_any L hL0 (by omega) W hW
          rw [hjs] at hjn hj2 hsp
          rw [hts] at hil
          have hz1 : ¬ (9223372036854775807 < js.size + 3) := by omega
          have hz2 : ¬ (9223372036854775807 < js.size + 3 + ts.size) := by omega
          have HJS := hid hjs
          have HTS := hid hts
          clear hjs hts
          have hdw : Fr [] wr wr.drew := (Fr.refl _ _).drew
          go_wp2_with fail
          go_region_held3 (fun V => V.cell? ⟨w.heap.size, 1, none⟩ = some (.int .i64 L)) (go_keep)
           (first
            | (go_at_call 23; refine (hjn wr.drew hdw).mono ?_; rintro e wj ⟨rfl, hfj⟩; have e1 := hfj.cell (p := ⟨w.heap.size, 1, none⟩) (v := .int .i64 L) c1 (by simp); have t1 : w.heap.size < wj.heap.size := Nat.lt_of_lt_of_le hs0 hfj.size; have hfa := hdw.then hfj)
            | (go_at_call 23; refine (hjn _ hfb).mono ?_; rintro e wj ⟨rfl, hfj⟩; have e1 := hfj.cell (p := ⟨w.heap.size, 1, none⟩) (v := .int .i64 L) e1 (by simp); have t1 : w.heap.size < wj.heap.size := Nat.lt_of_lt_of_le t1 hfj.size; have hfc := hfb.then hfj)
            | (go_at_call 22; refine (hita wr.drew (hTk.fr hdw)).mono ?_; rintro e wi ⟨rfl, hfi⟩; have e1 := hfi.cell (p := ⟨w.heap.size, 1, none⟩) (v := .int .i64 L) c1 (by simp); have t1 : w.heap.size < wi.heap.size := Nat.lt_of_lt_of_le hs0 hfi.size; have hfb := hdw.then hfi)
            | (go_at_call 22; refine (hita _ (hTk.fr hfa)).mono ?_; rintro e wi ⟨rfl, hfi⟩; have e1 := hfi.cell (p := ⟨w.heap.size, 1, none⟩) (v := .int .i64 L) e1 (by simp); have t1 : w.heap.size < wi.heap.size := Nat.lt_of_lt_of_le t1 hfi.size; have hfc := hfa.then hfi))
          all_goals
            go_wp2
            go_ret2
            exact ⟨hfwk.then hfc, .inr ⟨rfl, by rw [HTX.out, ← bs_app, ← bs_app, HJS.out, HTS.out]; rfl⟩⟩
end Go.Proofs.YtjmgjkcjnjlpdaaGreatDoor

/-! ## D29 -/
namespace Go.Proofs.YtjmgjkcjnjlpdaaGreatDoor
open Go.RowKit

set_option maxHeartbeats 1000000 in
theorem collect_any (xs : List Int) (hl : xs.length ≤ 17592186044415) (gf : Nat) (lb : Array Value) (eg : ∀ args w, (callFunc gf args).run Tryz.prog w = .ok (.enter gf args) w) (Pr : Nat → Prop) (w : World)
    (hit : ∀ n, IterF Tryz.prog n gf lb encI xs Pr w) (hPr : ∀ k, Pr k → k < w.heap.size) :
    Calls Tryz.prog 65 #[.func (.func gf) #[] lb] w fun e w' =>
      ∃ A cap, e = .returned (.slice A xs.length cap) ∧ Fr [] w w' ∧ OwnR w' w.heap.size 3 1 A xs.length cap (ints xs) := by
  have hap := appendSeq_any xs hl gf lb eg Pr w hit hPr
  go_enter Tryz.func65, Tryz.ntmps65
  go_wp2_with fail
  refine hap.mono ?_
  rintro e w1 ⟨A, cap, rfl, hf, hown⟩
  go_wp2
  go_ret
  exact ⟨_, _, rfl, hf, hown⟩

set_option maxHeartbeats 1000000 in
theorem sorted_any (xs : List Int) (hl : xs.length ≤ 17592186044415) (gf : Nat) (lb : Array Value) (eg : ∀ args w, (callFunc gf args).run Tryz.prog w = .ok (.enter gf args) w) (Pr : Nat → Prop) (w : World)
    (hit : ∀ n, IterF Tryz.prog n gf lb encI xs Pr w) (hPr : ∀ k, Pr k → k < w.heap.size) :
    Calls Tryz.prog 49 #[.func (.func gf) #[] lb] w fun e w' =>
      ∃ A cap, e = .returned (.slice A xs.length cap) ∧ Fr [] w w' ∧ OwnR w' w.heap.size 3 1 A xs.length cap (ints (xs.mergeSort leI)) := by
  have hap := collect_any xs hl gf lb eg Pr w hit hPr
  go_enter Tryz.func49, Tryz.ntmps49
  go_wp2_with fail
  refine hap.mono ?_
  rintro e w1 ⟨A, cap, rfl, hf, hown⟩
  go_wp2_with fail
  refine (sort_own xs A cap _ w1 hown hl).mono ?_
  rintro e w2 ⟨rfl, hown2, hf2⟩
  go_wp2
  go_ret
  refine ⟨_, _, rfl, hf.trans hf2 (fun i hi => .inr ?_), hown2⟩
  obtain ⟨a, h1, h2⟩ := mem_ablocks.1 hi
  have := (hown.addr a h1).1
  omega

/-- a permutation of n numbers -/
def isPerm (l : List Int) (n : Int) : Prop := (l.length : Int) = n ∧ ∀ k ∈ l, 0 ≤ k ∧ k < n

set_option maxHeartbeats 1000000 in
set_option maxRecDepth 100000 in
theorem isOrder_any (l : List Int) (A : Option Addr) (cap : Nat) (n : Int) (w : World) (hr : Rd w A (ints l)) (hl : l.length ≤ 17592186044415) :
    Calls Tryz.prog 31 #[.slice A l.length cap, .int .i64 n] w fun e w' => ∃ b, e = .returned (.bool b) ∧ Fr [] w w' ∧ (b = true → isPerm l n) := by
  have hlt0 : ints l ≠ [] → ∀ a, A = some a → a.block < w.heap.size := fun h => hr.block h
  go_enter Tryz.func31, Tryz.ntmps31
  go_wp2_with fail
  refine (values_any A l.length cap w).mono ?_
  rintro e w1 ⟨rfl, hw1⟩
  have hf1 : Fr [] w w1 := by rw [← hw1]; exact Fr.alloc1 _ _
  have hs1 : w1.heap.size = w.heap.size + 1 := by rw [← hw1]; simp
  have hv : w1.cell? ⟨w.heap.size, 0, none⟩ = some (.slice A l.length cap) := by rw [← hw1]; clear hw1 hf1 hs1; go_simp
  clear hw1
  have hsd := sorted_any l hl 67 #[.pointer (some ⟨w.heap.size, 0, none⟩)] (enters_of Tryz.func67 (by kernel_rfl) rfl) (fun k => k < w.heap.size ∨ k = w.heap.size) w1
    (fun m => values1_iter l A cap w1 w.heap.size (by omega) (hr.fr0 hf1) hlt0 (by omega) w.heap.size hv (by omega) m) (fun k hk => by omega)
  have hs1' : w.heap.size < w1.heap.size := by omega
  clear hs1
  go_wp2_with fail
  refine hsd.mono ?_
  rintro e w2 ⟨A2, c2, rfl, hf2, hown⟩
  clear hsd
  obtain ⟨xs, hxs⟩ : ∃ xs, xs = l.mergeSort leI := ⟨_, rfl⟩
  rw [← hxs] at hown
  have hxl : xs.length = l.length := by rw [hxs]; simp
  have hmem : ∀ k ∈ l, k ∈ xs := fun k hk => by rw [hxs]; exact List.mem_mergeSort.2 hk
  have HM := hid hmem
  have HX := hid hxl
  clear hxs hmem hv
  go_wp2
  go_loopw [13] (fun iv wr => ∃ (k : Nat), k ≤ l.length ∧ iv = .int .i64 k ∧ Fr [] w2 wr ∧ ∀ j, j < k → xs[j]? = some (j : Int)) (fun iv _ => l.length - (intOf iv).toNat)
  case atStart => exact ⟨0, by omega, rfl, Fr.refl _ _, by omega⟩
  case round =>
    obtain ⟨k, hk, rfl, hf3, hall⟩ := hrel
    have HA := hid hall
    have hfw := (hf1.then hf2).then hf3
    clear hall
    by_cases hlt : k < l.length
    · have hk2 : k < xs.length := by rw [HX.out]; exact hlt
      have hn : ints xs ≠ [] := by intro h; have := congrArg List.length h; simp only [ints, List.length_map, List.length_nil] at this; omega
      obtain ⟨b, off, rfl, hb, hc⟩ := (hown.rd.fr0 hf3) hn
      have x0 := hc k (.int .i64 xs[k]) (by simp [ints, hk2])
      have hg : xs[k]? = some xs[k] := List.getElem?_eq_getElem hk2
      generalize xs[k] = x at x0 hg
      have HG := hid hg
      clear hc hn hg hk2 hxl
      by_cases hxk : (k : Int) = x
      · subst hxk
        go_wp2
        go_roundw
        case rel =>
          refine ⟨k + 1, by omega, by simp, hf3, fun j hj => ?_⟩
          by_cases hjk : j = k
          · subst hjk; exact HG.out
          · exact HA.out j (by omega)
        case measure => simp [intOf]; omega
      · have hne : ((k : Int) != x) = true := by simpa using hxk
        clear hxk
        go_wp2
        go_ret
        exact ⟨false, rfl, hfw, by simp⟩
    · obtain rfl : k = l.length := by omega
      clear hxl
      go_wp2
      go_ret
      refine ⟨_, rfl, hfw, fun h => ?_⟩
      have h2 : (l.length : Int) = n := by simpa using h
      refine ⟨h2, fun k hk => ?_⟩
      obtain ⟨j, hj⟩ := List.getElem?_of_mem (HM.out k hk)
      have hjl : j < l.length := by rw [← HX.out]; exact (List.getElem?_eq_some_iff.1 hj).1
      rw [HA.out j hjl] at hj
      cases hj
      omega
end Go.Proofs.YtjmgjkcjnjlpdaaGreatDoor

/-! ## D30 -/
namespace Go.Proofs.YtjmgjkcjnjlpdaaGreatDoor
open Go.RowKit

def Cr.setArc (x : Cr) (j : Nat) (v : Int) : Cr :=
  match j with
  | 0 => { x with a := v }
  | 1 => { x with b := v }
  | 2 => { x with c := v }
  | _ => { x with d := v }
theorem Cr.setArc_cells (x : Cr) (v : Int) : ∀ (j : Nat) (_ : j < 4), x.cells.set j (.int .i64 v) = (x.setArc j v).cells
  | 0, _ => rfl
  | 1, _ => rfl
  | 2, _ => rfl
  | 3, _ => rfl
theorem Cr.cells_arc (x : Cr) : ∀ (j : Nat) (_ : j < 4), x.cells[j]? = some (.int .i64 (x.arc j))
  | 0, _ => rfl
  | 1, _ => rfl
  | 2, _ => rfl
  | 3, _ => rfl

set_option maxHeartbeats 2000000 in
set_option maxRecDepth 100000 in
theorem renumber_any (cs : List Cr) (A : Option Addr) (cap : Nat) (L : Int) (order arcs : List Int) (Ao Aa : Option Addr) (co ca : Nat) (w : World) (hr : Rd w A (crCells cs)) (ho : Rd w Ao (ints order)) (ha : Rd w Aa (ints arcs)) (hlo : order.length ≤ 17592186044415) (hla : arcs.length ≤ 17592186044415)
    (R : Int × List AE) (hR : enterF cs L = some R) :
    Calls Tryz.prog 13 #[.agg #[.slice A cs.length cap, .int .i64 L], .slice Ao order.length co, .slice Aa arcs.length ca] w (Quiet w) := by
  have HR := hid hR
  have HOK := hid (enterF_ok hR)
  clear hR
  obtain ⟨r1, l⟩ := R
  obtain ⟨W, hW⟩ : ∃ W, W = (w.alloc (.cells #[.slice A cs.length cap, .int .i64 L] 24)).alloc (.cells #[.slice none 0 0, .int .i64 0] 24) := ⟨_, rfl⟩
  have hfW : Fr [] w W := by rw [hW]; exact (Fr.alloc1 _ _).alloc _
  have g0 : W.cell? ⟨w.heap.size + 1, 0, none⟩ = some (.slice none 0 0) := by rw [hW]; go_simp
  have g1 : W.cell? ⟨w.heap.size + 1, 1, none⟩ = some (.int .i64 0) := by rw [hW]; go_simp
  have gf : ∀ i, W.frozen? ⟨w.heap.size + 1, i, none⟩ = false := fun i => by rw [hW]; go_simp
  have hs1 : w.heap.size + 1 < W.heap.size := by rw [hW]; simp
  have c0 : W.cell? ⟨w.heap.size, 0, none⟩ = some (.slice A cs.length cap) := by rw [hW]; go_simp
  have c1 : W.cell? ⟨w.heap.size, 1, none⟩ = some (.int .i64 L) := by rw [hW]; go_simp
  have hs0 : w.heap.size < W.heap.size := by omega
  go_enter Tryz.func13, Tryz.ntmps13
  go_wp2_with fail
  rw [← hW]
  clear hW
  refine (enter_any cs A cap L W (hr.fr0 hfW) _ HR.out).mono ?_
  rintro e w1 ⟨hf1, ⟨h0, rfl⟩ | ⟨h0, q, B, rfl, hD⟩⟩
  all_goals have f1 : Fr [] w w1 := hfW.then hf1
  all_goals replace g0 := hf1.cell g0 (by simp)
  all_goals replace g1 := hf1.cell g1 (by simp)
  all_goals replace gf : ∀ i, w1.frozen? ⟨w.heap.size + 1, i, none⟩ = false := fun i => (hf1.frozenE (p := ⟨w.heap.size + 1, i, none⟩) hs1 (by simp)).trans (gf i)
  all_goals replace hs1 := Nat.lt_of_lt_of_le hs1 hf1.size
  · simp only at h0
    have h0' : (r1 != 0) = true := by simpa using h0
    clear c0 c1 hs0
    go_wp2
    refine bodyPost_ret (v := .tuple #[.agg #[.slice none 0 0, .int .i64 0], .int .i64 r1]) ?_ rfl (.of _ rfl ?_)
    · simp [results, Tryz.results13, go_sem, hs1, g0, g1]
    · exact (f1.setCell (.inr (by simp)) _).setCell (.inr (by simp)) _
  · simp only at h0
    subst h0
    have hok := HOK.out rfl
    simp only at hok hD
    have hlen := endsF_len hok
    obtain ⟨hn, hll, hL0, hL1⟩ := hlen
    have HKO := hid hok
    clear hok c0 c1 hs0
    have hK : ∀ V, Fr [] w1 V → Fr [] w V ∧ V.cell? ⟨w.heap.size + 1, 0, none⟩ = some (.slice none 0 0) ∧ V.cell? ⟨w.heap.size + 1, 1, none⟩ = some (.int .i64 0) ∧ (∀ i, V.frozen? ⟨w.heap.size + 1, i, none⟩ = false) ∧ w.heap.size + 1 < V.heap.size ∧ DiagAt V q A cap cs L B l.length l :=
      fun V hV => ⟨f1.then hV, hV.cell g0 (by simp), hV.cell g1 (by simp), fun i => (hV.frozenE (p := ⟨w.heap.size + 1, i, none⟩) hs1 (by simp)).trans (gf i), Nat.lt_of_lt_of_le hs1 hV.size, hD.fr hV⟩
    have HK := hid hK
    have d0 := hD.c0
    have hq := hD.lt
    clear hK hD g0 g1 gf hs1 hf1
    go_wp2_with fail
    refine (isOrder_any order Ao co _ w1 (ho.fr0 f1) hlo).mono ?_
    rintro e w2 ⟨b1, rfl, hf2, hb1⟩
    cases b1 with
    | false =>
      obtain ⟨hfw, g0, g1, gf, hs1, -⟩ := HK.out w2 hf2
      clear d0 hq hf2 hb1
      go_wp2
      refine bodyPost_ret (v := .tuple #[.agg #[.slice none 0 0, .int .i64 0], .int .i64 1]) ?_ rfl (.of _ rfl ?_)
      · simp [results, Tryz.results13, go_sem, hs1, g0, g1]
      · exact (hfw.setCell (.inr (by simp)) _).setCell (.inr (by simp)) _
    | true =>
      have hp1 := hb1 rfl
      have HP1 := hid hp1
      have hD2 := (HK.out w2 hf2).2.2.2.2.2
      have hfw2 := (HK.out w2 hf2).1
      have d2 := hD2.c2
      have hq2 := hD2.lt
      clear d0 hq hb1 hp1 hD2
      go_wp2_with fail
      clear d2 hq2
      refine (isOrder_any arcs Aa ca _ w2 (ha.fr0 hfw2) hla).mono ?_
      rintro e w3 ⟨b2, rfl, hf3, hb2⟩
      obtain ⟨hfw, g0, g1, gf, hs1, hD3⟩ := HK.out w3 (hf2.then hf3)
      cases b2 with
      | false =>
        clear hD3 hf2 hf3 hb2 hfw2
        go_wp2
        refine bodyPost_ret (v := .tuple #[.agg #[.slice none 0 0, .int .i64 0], .int .i64 1]) ?_ rfl (.of _ rfl ?_)
        · simp [results, Tryz.results13, go_sem, hs1, g0, g1]
        · exact (hfw.setCell (.inr (by simp)) _).setCell (.inr (by simp)) _
      | true =>
        have hp2 := hb2 rfl
        obtain ⟨hp2l, -⟩ := hp2
        obtain ⟨hp1l, hp1r⟩ := HP1.out
        have hp1l' : order.length = cs.length := by omega
        have hp2l' : arcs.length = 2 * cs.length := by omega
        have HP := hid hp1r
        have HL1 := hid hp1l'
        have HL2 := hid hp2l'
        have hK3 := fun V (hV : Fr [] w3 V) => HK.out V ((hf2.then hf3).then hV)
        have HK3 := hid hK3
        have hro := ho.fr0 hfw
        have hra := ha.fr0 hfw
        have d1 := hD3.c1
        have hq3 := hD3.lt
        have hU0 : UCut w3 [] L w3.heap.size none 0 (w3.alloc (.cells #[.slice none 0 0, .int .i64 L] 24)) := UCut.late (al := []) (Fr.refl _ _) (OwnR.nil _ _ _ _)
        have HU0 := hid hU0
        clear hU0 hK3 hp1r hp1l hp2l hp1l' hp2l' hb2 hD3 g0 g1 gf hs1 hfw hfw2 hf2 hf3 ho ha hr
        go_wp2
        go_loopw [53] (fun iv wr => ∃ (k : Nat) (ys : List Cr) (A2 : Option Addr) (c2 : Nat), k ≤ order.length ∧ iv = .int .i64 k ∧ ys.length = k ∧ UCut w3 ys L w3.heap.size A2 c2 wr) (fun iv _ => order.length - (intOf iv).toNat)
        case atStart => exact ⟨0, [], none, 0, by omega, rfl, rfl, HU0.out⟩
        case round =>
          obtain ⟨k, ys, A2, c2, hk, rfl, hyl, hU2⟩ := hrel
          have q0 := hU2.c0
          have q1 := hU2.c1
          have qf := hU2.fz
          have qlt := hU2.lt
          rw [hyl] at q0
          have HYL := hid hyl
          have HU2 := hid hU2
          clear hyl d1 hq3
          obtain ⟨hfwr, g0, g1, gf, hs1, hD4⟩ := HK3.out wr hU2.fr
          have HD4 := hid hD4
          by_cases hlt : k < order.length
          · have hno : ints order ≠ [] := by intro h; have := congrArg List.length h; simp only [ints, List.length_map, List.length_nil] at this; omega
            obtain ⟨bo, oo, rfl, hbo, hco⟩ := (hro.fr0 hU2.fr) hno
            have o0 := hco k (.int .i64 order[k]) (by simp [ints, hlt])
            have hkr := HP.out order[k] (List.getElem_mem hlt)
            generalize order[k] = ok at o0 hkr
            obtain ⟨hk0, hk1⟩ := hkr
            obtain ⟨u, rfl⟩ := Int.eq_ofNat_of_zero_le hk0
            have hul : u < cs.length := by omega
            obtain ⟨b, off, rfl, hb, x0, x1, x2, x3, x4⟩ := hD4.rc.cr (List.getElem?_eq_getElem hul)
            have hxo := endsF_ok HKO.out _ (List.getElem_mem hul)
            generalize cs[u] = x at x0 x1 x2 x3 x4 hxo
            have HXO := hid hxo
            have d0 := hD4.c0
            have hq4 := hD4.lt
            clear hco hno hxo hD4 hU2 hk0 g0 g1 gf hs1
            obtain ⟨wo, hwo⟩ : ∃ wo : World, wo = wr := ⟨_, rfl⟩
            rw [← hwo] at x0 x1 x2 x3 x4 hb hbo o0 q0 q1 qf qlt HU2 d0 hq4 HD4 hfwr ⊢
            clear hwo
            have hE0 : Fr [] wo (wo.alloc (.cells #[.int .i64 x.a, .int .i64 x.b, .int .i64 x.c, .int .i64 x.d, .int .i64 x.s] 54)) := (Fr.refl _ _).alloc _
            go_wp2
            go_loopw [67] (fun jv wi => ∃ (j : Nat) (y : Cr), j ≤ 4 ∧ jv = .int .i64 j ∧ Fr [wo.heap.size] (wo.alloc (.cells #[.int .i64 x.a, .int .i64 x.b, .int .i64 x.c, .int .i64 x.d, .int .i64 x.s] 54)) wi ∧ RowAt wi wo.heap.size 54 y.cells) (fun jv _ => 4 - (intOf jv).toNat)
            case atStart => exact ⟨0, x, by omega, rfl, Fr.refl _ _, RowAt.new wo _ _⟩
            case round =>
              obtain ⟨j, y, hj, rfl, hfi, hrow⟩ := hrel
              have hofi : Fr [] wo wr := hE0.trans hfi (by simp)
              by_cases hj4 : j < 4
              · have harr : ∀ W, (Instr.index 52 (.agg #[.int .i64 x.a, .int .i64 x.b, .int .i64 x.c, .int .i64 x.d]) (.int .i64 (j : Int))).run Tryz.prog W = .ok (.int .i64 (x.arc j)) W := arr4 x.a x.b x.c x.d x.s j hj4
                have zj : wr.cell? ⟨wo.heap.size, j, none⟩ = some (.int .i64 (y.arc j)) := by rw [hrow.cell]; exact Cr.cells_arc y j hj4
                have zf := fun i => hrow.frozen i
                have hzlt := hrow.lt
                have hb0 : 0 ≤ x.arc j ∧ x.arc j < 2 * (cs.length : Int) := by
                  obtain ⟨_, _, _, _, _, _, _, _, _⟩ := HXO.out
                  match j, hj4 with
                  | 0, _ => simp only [Cr.arc]; omega
                  | 1, _ => simp only [Cr.arc]; omega
                  | 2, _ => simp only [Cr.arc]; omega
                  | 3, _ => simp only [Cr.arc]; omega
                generalize x.arc j = xa at harr hb0
                obtain ⟨hb1, hb2⟩ := hb0
                obtain ⟨v, rfl⟩ := Int.eq_ofNat_of_zero_le hb1
                have hva : v < arcs.length := by rw [HL2.out]; omega
                have hno : ints arcs ≠ [] := by intro h; have := congrArg List.length h; simp only [ints, List.length_map, List.length_nil] at this; omega
                obtain ⟨ba, oa, rfl, hba, hca⟩ := ((hra.fr0 (HU2.out.fr)).fr0 hofi) hno
                have a0 := hca v (.int .i64 arcs[v]) (by simp [ints, hva])
                generalize arcs[v] = av at a0
                have hj4' : (j : Int) < 4 := by omega
                have HR2 := hid hrow
                clear hrow hca hno
                go_wp2
                go_roundw
                case rel => exact ⟨j + 1, y.setArc j av, by omega, by go_num, hfi.setCell (.inl (by simp)) _, by rw [← Cr.setArc_cells y av j hj4]; exact HR2.out.set j _⟩
                case measure => simp [intOf]; omega
              · obtain rfl : j = 4 := by omega
                have U1 := HU2.out.to hofi
                have q0' := U1.c0
                rw [HYL.out] at q0'
                have hp1 := U1.lt
                obtain ⟨ya, yb, yc, yd, ys'⟩ := y
                have y0 : wr.cell? ⟨wo.heap.size, 0, none⟩ = some (.int .i64 ya) := hrow.cell 0
                have y1 : wr.cell? ⟨wo.heap.size, 1, none⟩ = some (.int .i64 yb) := hrow.cell 1
                have y2 : wr.cell? ⟨wo.heap.size, 2, none⟩ = some (.int .i64 yc) := hrow.cell 2
                have y3 : wr.cell? ⟨wo.heap.size, 3, none⟩ = some (.int .i64 yd) := hrow.cell 3
                have y4 : wr.cell? ⟨wo.heap.size, 4, none⟩ = some (.int .i64 ys') := hrow.cell 4
                have hzlt := hrow.lt
                have HU1 := hid U1
                have hW0 : w3.heap.size ≤ wr.heap.size := U1.fr.size
                have hk200 : k < 200 := by have := HL1.out; omega
                clear U1
                go_wp2_with (at_builtin; refine wpList_append1 _ rfl _ _ 22 rfl w3.heap.size 54 5 40 #[.int .i64 0, .int .i64 0, .int .i64 0, .int .i64 0, .int .i64 0] (by kernel_rfl) (by kernel_rfl) rfl (by omega) _ _ _ (crCells ys) rfl (by have := HU1.out.own.alloc (.cells #[.int .i64 ya, .int .i64 yb, .int .i64 yc, .int .i64 yd, .int .i64 ys'] 54); rw [HYL.out] at this; exact this) wr.heap.size [.int .i64 ya, .int .i64 yb, .int .i64 yc, .int .i64 yd, .int .i64 ys'] rfl rfl (RowAt.new' _ _ _ _ (by simp)) (by simp [Value.oneCell']) (by omega) (by omega) (by simp; omega) ?_; intro A7 c7 w7 hown7 hfr7 hlies7; obtain ⟨s0, sf, sl⟩ := (HU1.out.to (Fr.alloc1 wr (.cells #[.int .i64 ya, .int .i64 yb, .int .i64 yc, .int .i64 yd, .int .i64 ys'] 54))).kept hfr7)
                go_roundw
                case rel =>
                  refine ⟨k + 1, ys ++ [⟨ya, yb, yc, yd, ys'⟩], A7, c7, by omega, by go_num, by simp [HYL.out], ?_⟩
                  have hl := HYL.out
                  have h7 := (HU1.out.to (Fr.alloc1 wr (.cells #[.int .i64 ya, .int .i64 yb, .int .i64 yc, .int .i64 yd, .int .i64 ys'] 54))).grow (y := ⟨ya, yb, yc, yd, ys'⟩) hfr7 hlies7 (c2 := c7) (by rw [hl]; exact hown7)
                  rw [hl] at h7
                  exact h7
                case measure => simp [intOf]; omega
          · obtain rfl : k = order.length := by omega
            have hne : w3.heap.size ≠ w.heap.size + 1 := by have := (HK3.out w3 (Fr.refl _ _)).2.2.2.2.1; omega
            clear hD4 hU2
            go_wp2
            refine bodyPost_ret (v := .tuple #[.agg #[.slice A2 order.length c2, .int .i64 L], .int .i64 0]) ?_ rfl (.of _ rfl ?_)
            · simp [results, Tryz.results13, go_sem, hs1, g0, g1, hne, hne.symm]
            · exact (hfwr.setCell (.inr (by simp)) _).setCell (.inr (by simp)) _
end Go.Proofs.YtjmgjkcjnjlpdaaGreatDoor
