/- Walks: the reader of a code. -/
import Derived.Test.YtnedkfmbeeodfaaWord
import Derived.Test.YtnedkfmbeeodfaaReg
namespace Go.Proofs.Ytnedkfmbeeodfaa
open Go.RowKit

abbrev encU (x : Int) : List Value := [.int .u8 x]
/-- The reader in block g: it has the bytes l, and has been asked p times. -/
def Reader (w : World) (g : Nat) (l : List Int) (p : Nat) : Prop :=
  ∃ v : Value, w.heap[g]? = some (.cells #[v, .int .i64 p] 89 (0, 0)) ∧ Rd encU 1 w g v l ∧ (∀ x ∈ l, 0 ≤ x ∧ x ≤ 255) ∧ l.length ≤ 2000

theorem Reader.lt {w : World} {g p : Nat} {l : List Int} (h : Reader w g l p) : g < w.heap.size := by
  obtain ⟨v, hh, _⟩ := h
  exact (Array.getElem?_eq_some_iff.1 hh).1
theorem Reader.kept {w w' : World} {g p : Nat} {l : List Int} {row : Option Nat} (h : Reader w g l p) (hg : w.grownBy w' row) (hr : ∀ b, row = some b → g < b) : Reader w' g l p := by
  have hlt := h.lt
  obtain ⟨v, hh, hrd, hl⟩ := h
  exact ⟨v, (hg.block g hlt (fun e => by have := hr g e.symm; omega)).trans hh, Rd.far hrd (by omega) hg (fun b hb => by have := hr b hb; omega), hl⟩
theorem Reader.on {w w' : World} {g p : Nat} {l : List Int} (h : Reader w g l p) (hb : Below w.heap.size w w') : Reader w' g l p := h.kept (gb_of_below hb none) (by simp)

theorem Reader.alloc {w : World} {g p : Nat} {l : List Int} (h : Reader w g l p) (o : Obj) : Reader (w.alloc o) g l p := h.kept (World.grownBy_alloc w o none) (by simp)

/-- The bytes of an argument are bytes. -/
theorem IsRow.bytes {w : World} {a : Option Addr} {len cap : Nat} {zs : List Int} (h : IsRow .u8 w a len cap zs) : ∀ x ∈ zs.take len, 0 ≤ x ∧ x ≤ 255 := by
  rcases h with ⟨rfl, rfl, rfl, rfl⟩ | ⟨x, rfl, hl, hm, hz, hc, hw⟩
  · intro x hx; simp at hx
  · intro y hy
    have hh := hw y (List.mem_of_mem_take hy)
    simp only [Lit.wf, Bool.and_eq_true, decide_eq_true_eq] at hh
    rw [show IntKind.u8.min = 0 from rfl, show IntKind.u8.max = 255 from rfl] at hh
    exact hh

set_option maxHeartbeats 400000 in
theorem spec_l20Open_c (v : Value) (l : List Int) (w : World) (h : Rd encU 1 w w.heap.size v l) (hl : ∀ x ∈ l, 0 ≤ x ∧ x ≤ 255) :
    Calls Try.prog 59 #[v] w fun e w' => ∃ l', e = .returned (.pointer (some ⟨w.heap.size, 0, none⟩)) ∧ Reader w' w.heap.size l' 0 ∧ Below w.heap.size w w' := by
  obtain ⟨n, hn⟩ : ∃ n, l.length = n := ⟨_, rfl⟩
  obtain ⟨a, c, rfl, h1, h2, h3⟩ := Rd.openN h (fun _ => rfl) hn
  by_cases h4 : 2000 < n
  · have hcut : Rd encU 1 w w.heap.size (.slice a 2000 c) (l.take 2000) := by
      obtain ⟨a', c', he, g1, g2, g3, g4⟩ := h
      simp only [Value.slice.injEq] at he
      obtain ⟨rfl, _, rfl⟩ := he
      have hlen : (l.take 2000).length = 2000 := by simp; omega
      refine ⟨a, c, by rw [hlen], by omega, g2, by rw [← List.map_eq_flatMap, List.length_map, hlen], fun _ => ?_⟩
      obtain ⟨b, o, rfl, hb, hat⟩ := g4 (by omega)
      refine ⟨b, o, rfl, hb, fun j u hu => hat j u ?_⟩
      rw [← List.map_eq_flatMap] at hu ⊢
      rw [List.getElem?_map] at hu ⊢
      rw [List.getElem?_take] at hu
      split at hu
      · exact hu
      · simp at hu
    have HC := hid hcut
    have HL := hid hl
    clear hcut hl h h3 hn
    have hc2000 : (2000 : Int) ≤ (c : Int) := by omega
    go_enter Try.func59, Try.ntmps59
    go_wp2
    go_ret
    exact ⟨l.take 2000, rfl, ⟨_, heap_alloc_new _ _, (HC.out.below ((Below.refl w.heap.size w).alloc (Nat.le_refl _) _) (Nat.le_refl _)), fun x hx => HL.out x (List.mem_of_mem_take hx), by simp; omega⟩, (Below.refl _ _).alloc (Nat.le_refl _) _⟩
  · have HN := hid hn
    have HL := hid hl
    have HH := hid h
    clear hl h h3 hn
    go_enter Try.func59, Try.ntmps59
    go_wp2
    go_ret
    exact ⟨l, rfl, ⟨_, heap_alloc_new _ _, (HH.out.below ((Below.refl w.heap.size w).alloc (Nat.le_refl _) _) (Nat.le_refl _)), HL.out, by rw [HN.out]; omega⟩, (Below.refl _ _).alloc (Nat.le_refl _) _⟩

theorem xor_nonneg (a b : Int) (ha : 0 ≤ a) (ha' : a < 9223372036854775808) (hb : 0 ≤ b) (hb' : b < 9223372036854775808) : 0 ≤ bits .xor .i64 a b ∧ bits .xor .i64 a b ≤ 9223372036854775807 := by
  obtain ⟨x, rfl⟩ := Int.eq_ofNat_of_zero_le ha
  obtain ⟨y, rfl⟩ := Int.eq_ofNat_of_zero_le hb
  have hx : x < 9223372036854775808 := by omega
  have hy : y < 9223372036854775808 := by omega
  have ht : ∀ k : Nat, k < 9223372036854775808 → (BitVec.ofInt 64 (k : Int)).toNat = k := fun k hk => by
    rw [BitVec.ofInt_natCast, BitVec.toNat_ofNat]; exact Nat.mod_eq_of_lt (by omega)
  have hz : x ^^^ y < 2 ^ 63 := Nat.xor_lt_two_pow (by omega) (by omega)
  have e : bits .xor .i64 (x : Int) (y : Int) = IntKind.i64.wrap ((BitVec.ofInt 64 (x : Int) ^^^ BitVec.ofInt 64 (y : Int)).toNat : Int) := rfl
  rw [e, BitVec.toNat_xor, ht x hx, ht y hy, IntKind.wrap_i64]
  omega

/-- What a pick gives: a number in 0..n-1, or 0. -/
def Picked (n : Int) (w : World) (g : Nat) (l : List Int) (p : Nat) (e : Ending) (w' : World) : Prop :=
  ∃ x : Int, e = .returned (.int .i64 x) ∧ 0 ≤ x ∧ (1 ≤ n → x < n) ∧ (n < 1 → x = 0) ∧ Reader w' g l (p + 1) ∧ w.grownBy w' (some g)

set_option maxHeartbeats 2000000 in
theorem spec_pick_c (g p : Nat) (l : List Int) (n : Int) (w : World) (h : Reader w g l p) (hp : p ≤ 1099511627776) :
    Calls Try.prog 62 #[.pointer (some ⟨g, 0, none⟩), .int .i64 n] w (Picked n w g l p) := by
  have hlt := h.lt
  obtain ⟨v, hh, hrd, hl, hl2⟩ := h
  obtain ⟨m, hm⟩ : ∃ m, l.length = m := ⟨_, rfl⟩
  obtain ⟨a, c, rfl, h1, h2, h3⟩ := Rd.openN hrd (fun _ => rfl) hm
  have hm2 : m ≤ 2000 := by omega
  have hc0 := cell_of_row w g 0 _ _ _ hh
  have hc1 := cell_of_row w g 1 _ _ _ hh
  have hf1 : w.frozen? ⟨g, 1, none⟩ = false := by simp [World.frozen?, hh]
  simp only [List.getElem?_toArray, List.getElem?_cons_zero, List.getElem?_cons_succ] at hc0 hc1
  obtain ⟨W, hW⟩ : ∃ W, W = w.setCell ⟨g, 1, none⟩ (.int .i64 (p + 1)) := ⟨_, rfl⟩
  have hgW : w.grownBy W (some g) := by rw [hW]; exact ⟨rfl, rfl, rfl, by simp [World.setCell], fun k hk hne => Below.heap_setCell _ _ _ _ (fun e => hne (by rw [e]))⟩
  have hRW : Reader W g l (p + 1) := by
    refine ⟨_, ?_, Rd.far hrd (by omega) hgW (fun b hb => by simp at hb; omega), hl, hl2⟩
    rw [hW]
    simp [World.setCell, Array.getElem?_modify, hh]
  have HRW := hid hRW
  have HGW := hid hgW
  have HM := hid hm
  clear hm
  by_cases hn : n < 1
  · clear hh hrd hl hl2 h3 hRW hgW
    go_enter Try.func62, Try.ntmps62
    go_wp2
    go_ret
    exact ⟨0, rfl, Int.le_refl _, by omega, fun _ => rfl, by rw [← hW]; exact HRW.out, by rw [← hW]; exact HGW.out⟩
  · have hn1 : 1 ≤ n := by omega
    by_cases hm0 : m = 0
    · subst hm0
      clear hh hrd hl hl2 h3 hRW hgW
      go_enter Try.func62, Try.ntmps62
      go_wp2
      go_ret
      exact ⟨0, rfl, Int.le_refl _, fun _ => by omega, fun _ => rfl, by rw [← hW]; exact HRW.out, by rw [← hW]; exact HGW.out⟩
    · have hmp : 0 < m := by omega
      have hcell : ∀ j, j < m → ∃ b o x, a = some ⟨b, o, none⟩ ∧ (w.setCell ⟨g, 1, none⟩ (.int .i64 (p + 1))).cell? ⟨b, o + j, none⟩ = some (.int .u8 x) ∧ 0 ≤ x ∧ x ≤ 255 := by
        intro j hj
        obtain ⟨b, o, x, ha, hb, hx, hc⟩ := h3 j hj
        have := hl x (List.mem_of_getElem? hx.out)
        refine ⟨b, o, x, ha, ?_, this.1, this.2⟩
        rw [World.cell?_setCell_other w _ _ _ (by intro e; have := congrArg Addr.block e; simp at this; omega)]
        simpa using hc 0 _ rfl
      have hml : ((m : Int) == 0) = false := by simp; omega
      by_cases hpm : p < m
      · obtain ⟨b, o, x, rfl, hcx, hx0, hx1⟩ := hcell p hpm
        have hq0 := Int.emod_nonneg x (show n ≠ 0 by omega)
        have hq1 := Int.emod_lt_of_pos x (show 0 < n by omega)
        clear hh hrd hl hl2 h3 hRW hgW hcell
        go_enter Try.func62, Try.ntmps62
        go_wp2
        go_ret
        exact ⟨x % n, rfl, hq0, fun _ => hq1, by omega, by rw [← hW]; exact HRW.out, by rw [← hW]; exact HGW.out⟩
      · have i1 : 0 ≤ (p : Int) % (m : Int) := Int.emod_nonneg _ (by omega)
        have i2 : (p : Int) % (m : Int) < (m : Int) := Int.emod_lt_of_pos _ (by omega)
        obtain ⟨b, o, x, rfl, hcx, hx0, hx1⟩ := hcell (p % m) (Nat.mod_lt _ hmp)
        obtain ⟨b', o', y, hbo, hcy, hy0, hy1⟩ := hcell ((p * 7 + 3) % m) (Nat.mod_lt _ hmp)
        simp only [Option.some.injEq, Addr.mk.injEq, and_true] at hbo
        obtain ⟨rfl, rfl⟩ := hbo
        have i3 : ((p : Int) % (m : Int)).toNat = p % m := by rw [← Int.natCast_emod, Int.toNat_natCast]
        have jc : (p : Int) * 7 + 3 = ((p * 7 + 3 : Nat) : Int) := by omega
        have j1 : 0 ≤ ((p : Int) * 7 + 3) % (m : Int) := Int.emod_nonneg _ (by omega)
        have j2 : ((p : Int) * 7 + 3) % (m : Int) < (m : Int) := Int.emod_lt_of_pos _ (by omega)
        have j3 : (((p : Int) * 7 + 3) % (m : Int)).toNat = (p * 7 + 3) % m := by rw [jc, ← Int.natCast_emod, Int.toNat_natCast]
        have d0 : 0 ≤ (p : Int) / (m : Int) := Int.ediv_nonneg (by omega) (by omega)
        have d1 : (p : Int) / (m : Int) ≤ (p : Int) := Int.ediv_le_self _ (by omega)
        have e0 : 0 ≤ x * 131 + y * 1117 + (p : Int) * 29 + (p : Int) / (m : Int) * 53 := by omega
        have e1 : x * 131 + y * 1117 + (p : Int) * 29 + (p : Int) / (m : Int) * 53 ≤ 1000000000000000 := by omega
        have hX := xor_nonneg (x * 131 + y * 1117 + (p : Int) * 29 + (p : Int) / (m : Int) * 53) ((x * 131 + y * 1117 + (p : Int) * 29 + (p : Int) / (m : Int) * 53) / 64) e0 (by omega) (by omega) (by omega)
        obtain ⟨x0, x1⟩ := hX
        have HMO := hid (fun z : Int => And.intro (Int.emod_nonneg z (show n ≠ 0 by omega)) (Int.emod_lt_of_pos z (show 0 < n by omega)))
        clear hh hrd hl hl2 h3 hRW hgW hcell jc
        go_enter Try.func62, Try.ntmps62
        go_wp2
        go_quiet (fail)
        go_wp2
        go_ret
        exact ⟨_, rfl, (HMO.out _).1, fun _ => (HMO.out _).2, by omega, by rw [← hW]; exact HRW.out, by rw [← hW]; exact gb_drewN HGW.out _⟩

/-- What 'odd' gives: some bool; never true at 0. -/
def Odd (n : Int) (w : World) (g : Nat) (l : List Int) (p : Nat) (e : Ending) (w' : World) : Prop :=
  ∃ (x : Bool) (p' : Nat), e = .returned (.bool x) ∧ (n ≤ 0 → x = false) ∧ p' ≤ p + 1 ∧ Reader w' g l p' ∧ w.grownBy w' (some g)

set_option maxHeartbeats 400000 in
theorem spec_odd_c (g p : Nat) (l : List Int) (n : Int) (w : World) (h : Reader w g l p) (hp : p ≤ 1099511627776) (hn0 : 0 ≤ n) (hn9 : n ≤ 1000000) :
    Calls Try.prog 64 #[.pointer (some ⟨g, 0, none⟩), .int .i64 n] w (Odd n w g l p) := by
  by_cases hn : 0 < n
  · have H := hid h
    clear h
    go_enter Try.func64, Try.ntmps64
    go_wp2_with fail
    refine (spec_pick_c g p l n _ H.out hp).mono ?_
    rintro e w1 ⟨x, rfl, x0, x1, x2, hr, hg⟩
    have HR := hid hr
    have HG := hid hg
    clear hr hg x1 x2
    go_wp2
    go_ret
    exact ⟨_, _, rfl, fun h => by omega, Nat.le_refl _, HR.out, HG.out⟩
  · go_enter Try.func64, Try.ntmps64
    go_wp2
    go_ret
    exact ⟨_, p, rfl, fun _ => rfl, by omega, h, World.grownBy.refl _ _⟩

end Go.Proofs.Ytnedkfmbeeodfaa
