/- Walks: drawn caches. -/
import Derived.Test.YtnedkfmbeeodfaaDrawS
import Derived.Test.YtnedkfmbeeodfaaRun2
import Derived.Test.YtnedkfmbeeodfaaInvG
namespace Go.Proofs.Ytnedkfmbeeodfaa
open Go.RowKit

theorem useKeep_len (m : Int) (l : List Int) (p : Int) : (useKeep m l p).length ≤ 8 := by
  unfold useKeep
  split
  · rename_i h
    have := cacheOk_in (use_on_in h).1
    have := used_len (m := m) (l := l) (p := p)
    omega
  · simp

def isUsed (B : Nat) : Value → World → Prop := fun v w => ∃ (m : Int) (b : Bool) (keep : List Int) (a : Option Addr) (n c : Nat), v = .tuple #[.agg #[.int .i64 m, .slice a n c], .bool b] ∧ keep.length ≤ 8 ∧ OwnCut w B (.slice a n c) keep
def isCvd (B : Nat) : Value → World → Prop := fun v w => ∃ (m : Int) (keep : List Int) (a : Option Addr) (n c : Nat), v = .agg #[.int .i64 m, .slice a n c] ∧ keep.length ≤ 8 ∧ OwnCut w B (.slice a n c) keep
def isDoned (B : Nat) : Value → World → Prop := fun v w => ∃ (b : Nat) (m : Int) (keep : List Int) (a : Option Addr) (n c : Nat), v = .pointer (some ⟨b, 0, none⟩) ∧ B ≤ b ∧ keep.length ≤ 8 ∧ w.heap[b]? = some (.cells #[.int .i64 m, .slice a n c] 27 (0, 0)) ∧ OwnCut w B (.slice a n c) keep
def caF (B g : Nat) (m : Int) (kv : Value) : List (Value → World → Prop) :=
  [isV (.agg #[.int .i64 m, kv]), isV (.pointer (some ⟨g, 0, none⟩)), isI 0 11, isUsed B, isUsed B, isCvd B, fun _ _ => True, isBox B, isDoned B, fun _ _ => True]
/-- What stands elsewhere than in the reader's block stays. -/
theorem fact_gw {g : Nat} {l : List (Value → World → Prop)} (h : ∀ f ∈ l, Stable g f) (i : Nat) (v : Value) (w w' : World) (hg : w.grownBy w' (some g)) (hf : fact l i v w) : fact l i v w' := fact_st h i v w w' hg hf
theorem caF_gw {B g : Nat} {m : Int} {kv : Value} (hB : g < B) : ∀ f ∈ caF B g m kv, Stable g f := by
  intro f hf
  simp only [caF, List.mem_cons, List.not_mem_nil, or_false] at hf
  have far : ∀ {w w' : World} {v : Value} {xs : List Int}, w.grownBy w' (some g) → OwnCut w B v xs → OwnCut w' B v xs := fun hg ho => ho.far hg (fun b hb => by simp at hb; omega)
  rcases hf with rfl | rfl | rfl | rfl | rfl | rfl | rfl | rfl | rfl | rfl
  · exact isV_st _ _
  · exact isV_st _ _
  · exact isI_st _ _ _
  · rintro v w w' hg ⟨m', b, k, a, n, c, hv, hk, ho⟩; exact ⟨m', b, k, a, n, c, hv, hk, far hg ho⟩
  · rintro v w w' hg ⟨m', b, k, a, n, c, hv, hk, ho⟩; exact ⟨m', b, k, a, n, c, hv, hk, far hg ho⟩
  · rintro v w w' hg ⟨m', k, a, n, c, hv, hk, ho⟩; exact ⟨m', k, a, n, c, hv, hk, far hg ho⟩
  · exact fun _ _ _ _ h => h
  · rintro v w w' hg ⟨b, x, y, hv, hb, hh⟩; exact ⟨b, x, y, hv, hb, (hg.block b (Array.getElem?_eq_some_iff.1 hh).1 (some_ne (by omega))).trans hh⟩
  · rintro v w w' hg ⟨b, m', k, a, n, c, hv, hb, hk, hh, ho⟩; exact ⟨b, m', k, a, n, c, hv, hb, hk, (hg.block b (Array.getElem?_eq_some_iff.1 hh).1 (some_ne (by omega))).trans hh, far hg ho⟩
  · exact fun _ _ _ _ h => h
theorem caF_set {B g : Nat} {m M : Int} {kv : Value} {keep : List Int} {w : World} {b n c : Nat} {a : Option Addr} {x0 y0 : Value} (hB : B ≤ b) (hb : w.heap[b]? = some (.cells #[x0, y0] 27 (0, 0))) (hk : keep.length ≤ 8) (ho : OwnCut w B (.slice a n c) keep)
    (i : Nat) (v : Value) (hf : fact (caF B g m kv) i v w) : fact (caF B g m kv) i v ((w.setCell ⟨b, 0, none⟩ (.int .i64 M)).setCell ⟨b, 1, none⟩ (.slice a n c)) := by
  have hi : i < 10 ∨ 10 ≤ i := by omega
  rcases hi with hi | hi
  · obtain rfl | rfl | rfl | rfl | rfl | rfl | rfl | rfl | rfl | rfl : i = 0 ∨ i = 1 ∨ i = 2 ∨ i = 3 ∨ i = 4 ∨ i = 5 ∨ i = 6 ∨ i = 7 ∨ i = 8 ∨ i = 9 := by omega
    · exact hf
    · exact hf
    · exact hf
    · obtain ⟨m', b', k, a', n', c', hv, hk', ho'⟩ := hf; exact ⟨m', b', k, a', n', c', hv, hk', ho'.set hb _ _⟩
    · obtain ⟨m', b', k, a', n', c', hv, hk', ho'⟩ := hf; exact ⟨m', b', k, a', n', c', hv, hk', ho'.set hb _ _⟩
    · obtain ⟨m', k, a', n', c', hv, hk', ho'⟩ := hf; exact ⟨m', k, a', n', c', hv, hk', ho'.set hb _ _⟩
    · trivial
    · obtain ⟨b', x', y', hv, hB', hh⟩ := hf
      by_cases hbb : b' = b
      · subst hbb; exact ⟨_, _, _, hv, hB', set2_heap hb⟩
      · exact ⟨_, _, _, hv, hB', ((gb_set2 w b _ _).block b' (Array.getElem?_eq_some_iff.1 hh).1 (some_ne hbb)).trans hh⟩
    · obtain ⟨b', m', k, a', n', c', hv, hB', hk', hh, ho'⟩ := hf
      by_cases hbb : b' = b
      · subst hbb; exact ⟨_, _, _, _, _, _, hv, hB', hk, set2_heap hb, ho.set hb _ _⟩
      · exact ⟨_, _, _, _, _, _, hv, hB', hk', ((gb_set2 w b _ _).block b' (Array.getElem?_eq_some_iff.1 hh).1 (some_ne hbb)).trans hh, ho'.set hb _ _⟩
    · trivial
  · unfold fact at *
    rw [List.getD_eq_getElem?_getD, List.getElem?_eq_none (by simpa [caF] using hi)]
    trivial

def CacheDrawn (w : World) (g : Nat) (l : List Int) (p : Nat) (e : Ending) (w' : World) : Prop :=
  ∃ (m : Int) (v : Value) (keep : List Int) (p' : Nat), e = .returned (cv m v) ∧ OwnCut w' w.heap.size v keep ∧ keep.length ≤ 8 ∧ p' ≤ p + 200 ∧ Reader w' g l p' ∧ w.grownBy w' (some g)

set_option maxHeartbeats 2000000 in
theorem spec_l20Cache_c (g p : Nat) (l : List Int) (n : Int) (w : World) (h : Reader w g l p) (hp : p ≤ 109951162) (hn0 : 0 ≤ n) (hn9 : n ≤ 1000000) :
    Calls Try.prog 58 #[.pointer (some ⟨g, 0, none⟩), .int .i64 n] w (CacheDrawn w g l p) := by
  have hgl := h.lt
  have G0 : w.grownBy (w.alloc (.cells #[.int .i64 0, .slice none 0 0] 27)) (some g) := World.grownBy_alloc _ _ _
  go_enter Try.func58, Try.ntmps58
  go_wp2_with fail
  refine (spec_pick_c g p l 8 _ (h.alloc _) (by omega)).mono ?_
  rintro e w1 ⟨x, rfl, x0, x8, _, r1, g1⟩
  have hs1 := g1.size
  simp only [World.size_alloc] at hs1
  have G1 := hid ((G0.trans g1).trans (World.grownBy_alloc w1 (.cells #[.int .i64 (1 + x), .slice none 0 0] 27) (some g)))
  have hres1 := (g1.block w.heap.size (by simp) (some_ne (by omega))).trans (heap_alloc_new w _)
  have x8' := x8 (by omega)
  have R1 := hid (r1.alloc (.cells #[.int .i64 (1 + x), .slice none 0 0] 27))
  have hgcr : w.heap.size < w1.heap.size := by omega
  clear h g1 r1 x8 G0
  go_wp2_with fail
  refine (spec_pick_c g (p + 1) l 9 _ R1.out (by omega)).mono ?_
  rintro e w2 ⟨k0, rfl, k00, k09, _, r2, g2⟩
  have k09' := k09 (by omega)
  have hgcg : w1.heap.size ≠ g := by omega
  have hcell2 := (g2.block w1.heap.size (by simp) (some_ne (by omega))).trans (heap_alloc_new w1 _)
  have hres2 := (g2.block w.heap.size (by simp; omega) (some_ne (by omega))).trans ((Below.heap_alloc w1 _ _ (by omega)).trans hres1)
  have G2 := G1.out.trans g2
  clear k09 g2 G1 R1 hres1
  go_wp2
  go_loopw [6] (fun k wr => ∃ (c : Int) (q : Nat) (m : Int) (kv : Value) (keep : List Int), k = .int .i64 c ∧ 0 ≤ c ∧ (q : Int) + 20 * c ≤ p + 185 ∧ Reader wr g l q ∧ w.grownBy wr (some g) ∧ wr.heap[w.heap.size]? = some (.cells #[.int .i64 0, .slice none 0 0] 27 (0, 0)) ∧ wr.heap[w1.heap.size]? = some (.cells #[.int .i64 m, kv] 27 (0, 0)) ∧ OwnCut wr (w1.heap.size + 1) kv keep ∧ keep.length ≤ 8) (fun k _ => (intOf k).toNat)
  case atStart => exact ⟨k0, _, _, _, [], rfl, k00, by omega, r2, G2, hres2, hcell2, OwnCut.nil, by simp⟩
  case round =>
    obtain ⟨c, q, m, kv, keep, rfl, hc0, hq, hr, hG, hres, hcell, hown, hkl⟩ := hrel
    clear r2 G2 hres2 hcell2
    have hgc := (Array.getElem?_eq_some_iff.1 hcell).1
    have hgB : g < wr.heap.size := hr.lt
    by_cases hc : 0 < c
    · go_wp2
      refine wp_region_inv3 rfl (by kernel_rfl) (by kernel_rfl) (by kernel_rfl) (by simp) (fun n w' => RJ wr g l q n w') (fun w' w'' => ∀ i v, fact (caF wr.heap.size g m kv) i v w' → fact (caF wr.heap.size g m kv) i v w'') (fact (caF wr.heap.size g m kv)) ⟨q, Nat.le_refl _, hr, gb_drew (World.grownBy.refl _ _)⟩ (fun i v w' w'' hS hf => hS i v hf) ?_ ?_
      · intro i oo hi nn a' w4 hnn hj hb' hd
        have hnn' : nn < 10 := hnn
        obtain ⟨hlt1, rfl⟩ := Array.getElem?_eq_some_iff.1 hi
        have hlt' : i < 10 := hlt1
        clear hi
        obtain rfl | rfl | rfl | rfl | rfl | rfl | rfl | rfl | rfl | rfl : i = 0 ∨ i = 1 ∨ i = 2 ∨ i = 3 ∨ i = 4 ∨ i = 5 ∨ i = 6 ∨ i = 7 ∨ i = 8 ∨ i = 9 := by omega
        · have b5 : a'.eval (.tmp 5) = .pointer (some ⟨w1.heap.size, 0, none⟩) := hb' 5 (by rfl); have c5 := ev_get b5
          obtain ⟨p', hp', hr, hg⟩ := hj
          obtain ⟨x0, x1, _, _⟩ := two_cells ((hg.block w1.heap.size hgc (some_ne hgcg)).trans hcell)
          exact iv_val (v := .agg #[.int .i64 m, kv]) (by simp [execOp, c5, x0, x1, go_sem, Result.andThen]) ⟨_, rfl, (RJ.step ⟨p', hp', hr, hg⟩ rfl), fun _ _ h => h, rfl⟩
        · have b0 : a'.eval (.tmp 0) = .pointer (some ⟨g, 0, none⟩) := hb' 0 (by rfl); have c0 := ev_get b0
          exact iv_val (v := .pointer (some ⟨g, 0, none⟩)) (by simp [execOp, b0]) ⟨_, rfl, hj.step rfl, fun _ _ h => h, rfl⟩
        · have v1 : a'.eval (.tmp 21) = .pointer (some ⟨g, 0, none⟩) := hd ⟨1, .data⟩ (by simp) rfl; have u1 := ev_get v1
          obtain ⟨p', hp', hr, hg⟩ := hj
          refine iv_enter (f := 62) (args := #[.pointer (some ⟨g, 0, none⟩), .int .i64 12]) (by simp [execOp, u1, go_sem]) ?_
          refine (spec_pick_c g p' l 12 _ hr (by omega)).mono ?_
          rintro e w5 ⟨x, rfl, y0, y3, _, r5, g5⟩
          have y3' := y3 (by omega)
          exact ⟨_, rfl, _, rfl, ⟨p' + 1, by omega, r5, hg.trans g5⟩, fun i v h => fact_gw (caF_gw hgB) i v _ _ g5 h, (show isI 0 11 _ w5 from ⟨x, rfl, by omega, by omega⟩)⟩
        · have v0 : a'.eval (.tmp 20) = .agg #[.int .i64 m, kv] := hd ⟨0, .data⟩ (by simp) rfl; have u0 := ev_get v0
          have e2 : isI 0 11 (a'.eval (.tmp 22)) w4 := hd ⟨2, .data⟩ (by simp) rfl
          obtain ⟨x, v2, lo2, hi2⟩ := e2
          have u2 := ev_get v2
          obtain ⟨p', hp', hr, hg⟩ := hj
          refine iv_enter (f := 26) (args := #[.agg #[.int .i64 m, kv], .int .i64 x]) (by simp [execOp, u0, u2, go_sem]) ?_
          refine (spec_UseCache_c m _ keep x _ (hown.far hg (fun b hb => by simp at hb; omega)).rd).mono ?_
          rintro e w5 ⟨v', rfl, o5, b5⟩
          obtain ⟨ka, kn, kk, kc, kf, q1, q2, rfl, q4, q5⟩ := o5
          have hs4 := hg.size
          exact ⟨_, rfl, _, rfl, ⟨p', by omega, hr.on b5, hg.trans (gb_of_below b5 (some g))⟩, fun i v h => fact_gw (caF_gw hgB) i v _ _ (gb_of_below b5 (some g)) h, (show isUsed _ _ _ from ⟨_, _, _, _, _, _, rfl, useKeep_len _ _ _, (show OwnCut w5 _ _ _ from ⟨ka, kn, kk, kc, kf, q1, q2, rfl, q4, q5⟩).less hs4⟩)⟩
        · have e3 : isUsed wr.heap.size (a'.eval (.tmp 23)) w4 := hd ⟨3, .data⟩ (by simp) rfl
          exact iv_val (v := a'.eval (.tmp 23)) (by simp [execOp]) ⟨_, rfl, hj.step rfl, fun _ _ h => h, e3⟩
        · have e4 : isUsed wr.heap.size (a'.eval (.tmp 19)) w4 := hd ⟨4, .data⟩ (by simp) rfl
          obtain ⟨M, b, K, ka, kn, kc, v4, hK, o4⟩ := e4
          have u4 := ev_get v4
          exact iv_val (v := .agg #[.int .i64 M, .slice ka kn kc]) (by simp [execOp, u4, go_sem]) ⟨_, rfl, hj.step rfl, fun _ _ h => h, (show isCvd _ _ _ from ⟨_, _, _, _, _, rfl, hK, o4⟩)⟩
        · have e4 : isUsed wr.heap.size (a'.eval (.tmp 19)) w4 := hd ⟨4, .data⟩ (by simp) rfl
          obtain ⟨M, b, K, ka, kn, kc, v4, hK, o4⟩ := e4
          have u4 := ev_get v4
          exact iv_val (v := .bool b) (by simp [execOp, u4, go_sem]) ⟨_, rfl, hj.step rfl, fun _ _ h => h, trivial⟩
        · exact iv_val (v := .pointer (some ⟨w4.heap.size, 0, none⟩)) (w' := w4.alloc (.cells #[.int .i64 0, .slice none 0 0] 27)) (by simp [execOp, go_sem, Result.andThen]) ⟨_, rfl, hj.alloc _, fun i v h => fact_gw (caF_gw hgB) i v _ _ (World.grownBy_alloc _ _ _) h, (show isBox _ _ _ from ⟨_, _, _, rfl, (by obtain ⟨_, _, _, hg⟩ := hj; exact hg.size), heap_alloc_new _ _⟩)⟩
        · have e7 : isBox wr.heap.size (a'.eval (.tmp 7)) w4 := hd ⟨7, .data⟩ (by simp) rfl
          obtain ⟨bb, x9, y9, v7, hB9, hh9⟩ := e7
          have u7 := ev_get v7
          have e5 : isCvd wr.heap.size (a'.eval (.tmp 24)) w4 := hd ⟨5, .data⟩ (by simp) rfl
          obtain ⟨M, K, ka, kn, kc, v5, hK, o5⟩ := e5
          have u5 := ev_get v5
          obtain ⟨s0, s1, g0, g1⟩ := two_cells hh9
          have s1' : (w4.setCell ⟨bb, 0, none⟩ (.int .i64 M)).cell? ⟨bb, 1, none⟩ = some y9 := by rw [World.cell?_setCell_other _ _ _ _ (by simp)]; exact s1
          have g1' : (w4.setCell ⟨bb, 0, none⟩ (.int .i64 M)).frozen? ⟨bb, 1, none⟩ = false := by simpa using g1
          obtain ⟨p', hp', hr, hg⟩ := hj
          have gs := gb_set2 w4 bb (.int .i64 M) (.slice ka kn kc)
          exact iv_skip (w' := (w4.setCell ⟨bb, 0, none⟩ (.int .i64 M)).setCell ⟨bb, 1, none⟩ (.slice ka kn kc)) (by simp [execOp, u7, u5, s0, s1', g0, g1', go_sem, Result.andThen]) ⟨undef, rfl, ⟨p', by omega, hr.kept gs (fun b hb => by simp at hb; omega), gb_out hg gs (fun b hb => .inr (by simp at hb; omega))⟩, fun i v h => caF_set hB9 hh9 hK o5 i v h, (show isDoned _ (a'.eval (.tmp 7)) _ from ⟨bb, _, _, _, _, _, v7, hB9, hK, set2_heap hh9, o5.set hh9 _ _⟩)⟩
        · exact iv_val (v := a'.eval (.tmp 25)) (by simp [execOp]) ⟨_, rfl, hj.step rfl, fun _ _ h => h, trivial⟩
      · intro tm w4 hj hF
        have q7 : isDoned wr.heap.size (tm.getD 7 undef) w4 := hF 8 _ rfl
        obtain ⟨bb, M, K, ka, kn, kc, q7, hbb, hK, hd7, o7⟩ := q7
        obtain ⟨p', hp', hr4, hg4⟩ := hj
        have hp'' : p' ≤ q + 10 := hp'
        clear hF hp'
        simp only [refillL, List.setIfInBounds_toArray, List.set_cons_succ, List.set_cons_zero]
        rw [q7]
        obtain ⟨s0, s1, _, _⟩ := two_cells hd7
        have hcell4 := (hg4.block w1.heap.size hgc (some_ne hgcg)).trans hcell
        have hres4 := (hg4.block w.heap.size (Array.getElem?_eq_some_iff.1 hres).1 (some_ne (by omega))).trans hres
        obtain ⟨d0, d1, g0, g1⟩ := two_cells hcell4
        have gs := gb_set2 w4 w1.heap.size (.int .i64 M) (.slice ka kn kc)
        have Q1 := hid (hr4.kept gs (fun b hb => by simp at hb; omega))
        have Q2 := hid (gb_out (hG.trans hg4) gs (fun b hb => .inr (by simp at hb; omega)))
        have Q3 := hid ((gs.block w.heap.size (Array.getElem?_eq_some_iff.1 hres4).1 (some_ne (by omega))).trans hres4)
        have Q4 := hid (set2_heap (x' := .int .i64 M) (y' := .slice ka kn kc) hcell4)
        have Q5 := hid ((o7.set hcell4 (.int .i64 M) (.slice ka kn kc)).less (show w1.heap.size + 1 ≤ wr.heap.size by omega))
        clear q7 gs hr4 hg4 hcell4 hres4 hd7 o7 hr hG hres hcell hown
        go_wp2
        go_roundw
        case rel => exact ⟨c - 1, p', M, _, K, rfl, by omega, by omega, Q1.out, Q2.out, Q3.out, Q4.out, Q5.out, hK⟩
        case measure => simp [intOf]; omega
    · go_wp2_with fail
      refine (spec_odd_c g q l n _ hr (by omega) hn0 hn9).mono ?_
      rintro e w5 ⟨b5, p5, rfl, _, hp5, r5, g5⟩
      have hcell5 := (g5.block w1.heap.size hgc (some_ne hgcg)).trans hcell
      have hres5 := (g5.block w.heap.size (Array.getElem?_eq_some_iff.1 hres).1 (some_ne (by omega))).trans hres
      have o5 := hown.far g5 (fun b hb => by simp at hb; omega)
      have G5 := hG.trans g5
      have hs5 := G5.size
      obtain ⟨d0, d1, _, _⟩ := two_cells hcell5
      obtain ⟨e0, e1, f0, f1⟩ := two_cells hres5
      clear g5 hr hG hres hown hcell
      cases b5
      · obtain ⟨va, vn, vk, vc, vf, ho1, ho2, rfl, ho4, ho5⟩ := o5
        have o5 : OwnCut w5 (w1.heap.size + 1) (.slice va vk vc) keep := ⟨va, vn, vk, vc, vf, ho1, ho2, rfl, ho4, ho5⟩
        obtain ⟨q0, q1⟩ := set2 (x' := .int .i64 m) (y' := .slice va vk vc) e0 e1
        have gs := gb_set2 w5 w.heap.size (.int .i64 m) (.slice va vk vc)
        have Q1 := hid (r5.kept gs (fun b hb => by simp at hb; omega))
        have Q2 := hid (gb_out G5 gs (fun b hb => .inr (by simp at hb; omega)))
        have Q5 := hid ((o5.set hres5 (.int .i64 m) (.slice va vk vc)).less (show w.heap.size ≤ w1.heap.size + 1 by omega))
        clear gs r5 G5 o5 ho1 ho2 ho4 ho5 hcell5 hres5
        go_wp2
        refine bodyPost_ret (v := cv m (.slice va vk vc)) (by simp [results, Try.results58, go_sem, q0, q1]; try rfl) rfl ?_
        exact ⟨_, _, keep, p5, rfl, Q5.out, hkl, by omega, Q1.out, Q2.out⟩
      · have hlt5 := (Array.getElem?_eq_some_iff.1 hres5).1
        have hlt6 := (Array.getElem?_eq_some_iff.1 hcell5).1
        obtain ⟨WA, hWA⟩ : ∃ W, W = w5.alloc (.cells #[.int .i64 1, .int .i64 2] 3) := ⟨_, rfl⟩
        obtain ⟨WB, hWB⟩ : ∃ W, W = WA.alloc (.cells #[.int .i64 1, .int .i64 1] 3) := ⟨_, rfl⟩
        obtain ⟨WC, hWC⟩ : ∃ W, W = WB.alloc (.cells #[.int .i64 (-1)] 3) := ⟨_, rfl⟩
        obtain ⟨WD, hWD⟩ : ∃ W, W = WC.alloc (.cells #[.int .i64 0, .slice none 0 0, .int .i64 9, .slice none 0 0, .int .i64 1, .slice (some ⟨w5.heap.size, 0, none⟩) 2 2, .int .i64 3, .slice (some ⟨w5.heap.size + 1, 0, none⟩) 2 2, .int .i64 2, .slice (some ⟨w5.heap.size + 1 + 1, 0, none⟩) 1 1] 27) := ⟨_, rfl⟩
        have zA : WA.heap.size = w5.heap.size + 1 := by rw [hWA]; simp
        have zB : WB.heap.size = w5.heap.size + 1 + 1 := by rw [hWB]; simp [zA]
        have zC : WC.heap.size = w5.heap.size + 1 + 1 + 1 := by rw [hWC]; simp [zB]
        have zD : WD.heap.size = w5.heap.size + 1 + 1 + 1 + 1 := by rw [hWD]; simp [zC]
        have oA : OwnI WD (w1.heap.size + 1) (.slice (some ⟨w5.heap.size, 0, none⟩) 2 2) [1, 2] := by
          have h0 : OwnI WA (w1.heap.size + 1) (.slice (some ⟨w5.heap.size, 0, none⟩) 2 2) [1, 2] := by rw [hWA]; exact Own.lit w5 (by have := (Array.getElem?_eq_some_iff.1 hcell5).1; omega) [1, 2] _ 2 rfl rfl rfl (by simp [maxLen])
          rw [hWD, hWC, hWB]; exact ((h0.alloc _).alloc _).alloc _
        have oB : OwnI WD (w1.heap.size + 1) (.slice (some ⟨w5.heap.size + 1, 0, none⟩) 2 2) [1, 1] := by
          have h0 : OwnI WB (w1.heap.size + 1) (.slice (some ⟨WA.heap.size, 0, none⟩) 2 2) [1, 1] := by rw [hWB]; exact Own.lit WA (by have := (Array.getElem?_eq_some_iff.1 hcell5).1; omega) [1, 1] _ 2 rfl rfl rfl (by simp [maxLen])
          rw [zA] at h0
          rw [hWD, hWC]; exact (h0.alloc _).alloc _
        have oC : OwnI WD (w1.heap.size + 1) (.slice (some ⟨w5.heap.size + 1 + 1, 0, none⟩) 1 1) [-1] := by
          have h0 : OwnI WC (w1.heap.size + 1) (.slice (some ⟨WB.heap.size, 0, none⟩) 1 1) [-1] := by rw [hWC]; exact Own.lit WB (by have := (Array.getElem?_eq_some_iff.1 hcell5).1; omega) [-1] _ 1 rfl rfl rfl (by simp [maxLen])
          rw [zB] at h0
          rw [hWD]; exact h0.alloc _
        have hD : WD.heap[w5.heap.size + 1 + 1 + 1]? = some (.cells #[.int .i64 0, .slice none 0 0, .int .i64 9, .slice none 0 0, .int .i64 1, .slice (some ⟨w5.heap.size, 0, none⟩) 2 2, .int .i64 3, .slice (some ⟨w5.heap.size + 1, 0, none⟩) 2 2, .int .i64 2, .slice (some ⟨w5.heap.size + 1 + 1, 0, none⟩) 1 1] 27 (0, 0)) := by rw [← zC, hWD]; exact heap_alloc_new WC _
        have gA : w5.grownBy WD (some g) := by rw [hWD, hWC, hWB, hWA]; exact (((World.grownBy_alloc _ _ _).trans (World.grownBy_alloc _ _ _)).trans (World.grownBy_alloc _ _ _)).trans (World.grownBy_alloc _ _ _)
        have rD : Reader WD g l p5 := by rw [hWD, hWC, hWB, hWA]; exact (((r5.alloc _).alloc _).alloc _).alloc _
        go_wp2_with fail
        rw [← hWA, ← hWB, ← hWC, ← hWD]
        refine (spec_pick_c g p5 l 5 _ rD (by omega)).mono ?_
        rintro e w6 ⟨y, rfl, y0, y5, _, r6, g6⟩
        have y5' := y5 (by omega)
        have hD6 := (g6.block _ (Array.getElem?_eq_some_iff.1 hD).1 (some_ne (by omega))).trans hD
        have hres6 := (g6.block w.heap.size (by omega) (some_ne (by omega))).trans ((gA.block w.heap.size (by omega) (some_ne (by omega))).trans hres5)
        have pA := OwnCut.of (oA.far g6 (fun b hb => by simp at hb; omega))
        have pB := OwnCut.of (oB.far g6 (fun b hb => by simp at hb; omega))
        have pC := OwnCut.of (oC.far g6 (fun b hb => by simp at hb; omega))
        have G6 := (G5.trans gA).trans g6
        have k0 := ofRow hD6 0 rfl
        have k1 := ofRow hD6 1 rfl
        have k2 := ofRow hD6 2 rfl
        have k3 := ofRow hD6 3 rfl
        have k4 := ofRow hD6 4 rfl
        have k5 := ofRow hD6 5 rfl
        have k6 := ofRow hD6 6 rfl
        have k7 := ofRow hD6 7 rfl
        have k8 := ofRow hD6 8 rfl
        have k9 := ofRow hD6 9 rfl
        obtain ⟨i0, i1, j0, j1⟩ := two_cells hres6
        have hss : w.heap.size < g ∨ g < w.heap.size := by omega
        have fin : ∀ (m' : Int) (v' : Value) (K : List Int), OwnCut w6 (w1.heap.size + 1) v' K → K.length ≤ 8 →
            Hid (CacheDrawn w g l p (.returned (cv m' v')) ((w6.setCell ⟨w.heap.size, 0, none⟩ (.int .i64 m')).setCell ⟨w.heap.size, 1, none⟩ v')) := by
          intro m' v' K hK hl
          have gs := gb_set2 w6 w.heap.size (.int .i64 m') v'
          exact ⟨m', v', K, p5 + 1, rfl, (hK.set hres6 (.int .i64 m') v').less (by omega), hl, by omega, r6.kept gs (fun b hb => by simp at hb; omega), gb_out G6 gs (fun b hb => .inr (by simp at hb; omega))⟩
        have F0 := fin 0 (.slice none 0 0) [] OwnCut.nil (by simp)
        have F1 := fin 9 (.slice none 0 0) [] OwnCut.nil (by simp)
        have F2 := fin 1 _ _ pA (by simp)
        have F3 := fin 3 _ _ pB (by simp)
        have F4 := fin 2 _ _ pC (by simp)
        clear fin pA pB pC oA oB oC hD hD6 gA rD r6 g6 G6 G5 r5 hres6 hres5 hcell5 y5 hWA hWB hWC hWD
        obtain rfl | rfl | rfl | rfl | rfl : y = 0 ∨ y = 1 ∨ y = 2 ∨ y = 3 ∨ y = 4 := by omega
        · go_wp2
          obtain ⟨q0, q1⟩ := set2 (x' := .int .i64 0) (y' := .slice none 0 0) i0 i1
          exact bodyPost_ret (v := cv 0 (.slice none 0 0)) (by simp [results, Try.results58, go_sem, q0, q1]; try rfl) rfl F0.out
        · go_wp2
          obtain ⟨q0, q1⟩ := set2 (x' := .int .i64 9) (y' := .slice none 0 0) i0 i1
          exact bodyPost_ret (v := cv 9 (.slice none 0 0)) (by simp [results, Try.results58, go_sem, q0, q1]; try rfl) rfl F1.out
        · go_wp2
          obtain ⟨q0, q1⟩ := set2 (x' := .int .i64 1) (y' := .slice (some ⟨w5.heap.size, 0, none⟩) 2 2) i0 i1
          exact bodyPost_ret (v := cv 1 (.slice (some ⟨w5.heap.size, 0, none⟩) 2 2)) (by simp [results, Try.results58, go_sem, q0, q1]; try rfl) rfl F2.out
        · go_wp2
          obtain ⟨q0, q1⟩ := set2 (x' := .int .i64 3) (y' := .slice (some ⟨w5.heap.size + 1, 0, none⟩) 2 2) i0 i1
          exact bodyPost_ret (v := cv 3 (.slice (some ⟨w5.heap.size + 1, 0, none⟩) 2 2)) (by simp [results, Try.results58, go_sem, q0, q1]; try rfl) rfl F3.out
        · go_wp2
          obtain ⟨q0, q1⟩ := set2 (x' := .int .i64 2) (y' := .slice (some ⟨w5.heap.size + 1 + 1, 0, none⟩) 1 1) i0 i1
          exact bodyPost_ret (v := cv 2 (.slice (some ⟨w5.heap.size + 1 + 1, 0, none⟩) 1 1)) (by simp [results, Try.results58, go_sem, q0, q1]; try rfl) rfl F4.out

end Go.Proofs.Ytnedkfmbeeodfaa
