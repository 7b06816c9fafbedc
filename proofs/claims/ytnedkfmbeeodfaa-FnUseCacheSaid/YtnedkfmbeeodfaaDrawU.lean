/- Walks: a drawn use of a cache. -/
import Derived.Test.YtnedkfmbeeodfaaDrawC
namespace Go.Proofs.Ytnedkfmbeeodfaa
open Go.RowKit

theorem div3 {x : Int} (h : 0 ≤ x) (h' : x ≤ 3) : IntKind.i64.wrap (x.tdiv 3) = x / 3 := by
  obtain rfl | rfl | rfl | rfl : x = 0 ∨ x = 1 ∨ x = 2 ∨ x = 3 := by omega
  all_goals decide

def isN : Value → World → Prop := fun v _ => ∃ x : Int, v = .int .i64 x
def isPair (B : Nat) : Value → World → Prop := fun v w => ∃ (b : Nat) (x y : Int), v = .slice (some ⟨b, 0, none⟩) 2 2 ∧ B ≤ b ∧ w.heap[b]? = some (.cells #[.int .i64 x, .int .i64 y] 3 (0, 0))
def isCellN (B : Nat) : Value → World → Prop := fun v w => ∃ (b j : Nat) (x y : Int), v = .pointer (some ⟨b, j, none⟩) ∧ B ≤ b ∧ w.heap[b]? = some (.cells #[.int .i64 x, .int .i64 y] 3 (0, 0)) ∧ j < 2
def isRes (m : Int) (kv : Value) (r : Nat) : Value → World → Prop := fun _ w => w.heap[r]? = some (.cells #[.int .i64 m, kv] 27 (0, 0))
def ucF (B g : Nat) (m : Int) (kv : Value) (r : Nat) : List (Value → World → Prop) :=
  [isV (cv m kv), isV (.pointer (some ⟨g, 0, none⟩)), isI 0 11, isV (.pointer (some ⟨g, 0, none⟩)), isN, isPair B, isV (.pointer (some ⟨g, 0, none⟩)), isI 0 3, isI 0 1, isCellN B, isN, isRes m kv r, isN]
theorem ucF_gw {B g r : Nat} {m : Int} {kv : Value} (hz : r < g ∧ g < B) (i : Nat) (v : Value) (w w' : World) (hg : w.grownBy w' (some g)) (hf : fact (ucF B g m kv r) i v w) : fact (ucF B g m kv r) i v w' := by
  refine fact_st ?_ i v w w' hg hf
  intro f hf
  simp only [ucF, List.mem_cons, List.not_mem_nil, or_false] at hf
  rcases hf with rfl | rfl | rfl | rfl | rfl | rfl | rfl | rfl | rfl | rfl | rfl | rfl | rfl
  all_goals first
    | exact isV_st _ _
    | exact isI_st _ _ _
    | exact fun _ _ _ _ h => h
    | (rintro v w w' hg ⟨b, x, y, hv, hb, hh⟩; exact ⟨b, x, y, hv, hb, (hg.block b (Array.getElem?_eq_some_iff.1 hh).1 (some_ne (by omega))).trans hh⟩)
    | (rintro v w w' hg ⟨b, j, x, y, hv, hb, hh, hj⟩; exact ⟨b, j, x, y, hv, hb, (hg.block b (Array.getElem?_eq_some_iff.1 hh).1 (some_ne (by omega))).trans hh, hj⟩)
    | exact fun v w w' hg hh => (hg.block r (Array.getElem?_eq_some_iff.1 hh).1 (some_ne (by omega))).trans hh
theorem ucF_set {B g r : Nat} {m : Int} {kv : Value} {w : World} {x y : Value} (hz : r < g ∧ g < B) (hR : w.heap[r]? = some (.cells #[x, y] 27 (0, 0))) (i : Nat) (v : Value) (hf : fact (ucF B g m kv r) i v w) :
    fact (ucF B g m kv r) i v ((w.setCell ⟨r, 0, none⟩ (.int .i64 m)).setCell ⟨r, 1, none⟩ kv) := by
  have hg := gb_set2 w r (.int .i64 m) kv
  have hi : i < 13 ∨ 13 ≤ i := by omega
  rcases hi with hi | hi
  · obtain rfl | rfl | rfl | rfl | rfl | rfl | rfl | rfl | rfl | rfl | rfl | rfl | rfl : i = 0 ∨ i = 1 ∨ i = 2 ∨ i = 3 ∨ i = 4 ∨ i = 5 ∨ i = 6 ∨ i = 7 ∨ i = 8 ∨ i = 9 ∨ i = 10 ∨ i = 11 ∨ i = 12 := by omega
    all_goals first
      | exact hf
      | (obtain ⟨b, x, y, hv, hb, hh⟩ := hf; exact ⟨b, x, y, hv, hb, (hg.block b (Array.getElem?_eq_some_iff.1 hh).1 (some_ne (by omega))).trans hh⟩)
      | (obtain ⟨b, j, x, y, hv, hb, hh, hj⟩ := hf; exact ⟨b, j, x, y, hv, hb, (hg.block b (Array.getElem?_eq_some_iff.1 hh).1 (some_ne (by omega))).trans hh, hj⟩)
      | exact set2_heap hR
  · unfold fact at *
    rw [List.getD_eq_getElem?_getD, List.getElem?_eq_none (by simpa [ucF] using hi)]
    trivial

/-- The code lies elsewhere than a cache's cells. -/
theorem Reader.set2 {w : World} {g r p : Nat} {l : List Int} {x : Int} {a : Option Addr} {k c : Nat} {x' y' : Value} (h : Reader w g l p) (hR : w.heap[r]? = some (.cells #[.int .i64 x, .slice a k c] 27 (0, 0))) (hrg : r ≠ g) :
    Reader ((w.setCell ⟨r, 0, none⟩ x').setCell ⟨r, 1, none⟩ y') g l p := by
  have hg := gb_set2 w r x' y'
  have hlt := h.lt
  obtain ⟨v, hh, hrd, hl⟩ := h
  refine ⟨v, (hg.block g hlt (some_ne (Ne.symm hrg))).trans hh, ?_, hl⟩
  obtain ⟨a', c', rfl, h1, h2, h3, h4⟩ := hrd
  refine ⟨a', c', rfl, h1, h2, h3, fun hn => ?_⟩
  obtain ⟨b, o, rfl, hb, hat⟩ := h4 hn
  have hbr : b ≠ r := by
    rintro rfl
    have hcs : 0 < (l.flatMap encU).length := by rw [h3]; omega
    have h0 := hat 0 _ (List.getElem?_eq_getElem hcs)
    have hu : ∃ z, (l.flatMap encU)[0] = .int .u8 z := by
      cases l with
      | nil => simp at hn
      | cons z r => exact ⟨z, rfl⟩
    obtain ⟨z, hz⟩ := hu
    rw [hz] at h0
    simp only [World.cell?, hR, Nat.add_zero] at h0
    have ho : o = 0 ∨ o = 1 ∨ 2 ≤ o := by omega
    rcases ho with rfl | rfl | ho
    · simp at h0
    · simp at h0
    · have : (#[Value.int .i64 x, .slice a k c])[o]? = none := by rw [Array.getElem?_eq_none]; simpa using ho
      rw [this] at h0; cases h0
  refine ⟨b, o, rfl, hb, fun j u hj => ?_⟩
  rw [World.cell?_setCell_other _ _ _ _ (by intro e; have := congrArg Addr.block e; simp at this; omega), World.cell?_setCell_other _ _ _ _ (by intro e; have := congrArg Addr.block e; simp at this; omega)]
  exact hat j u hj

/-- While a use is drawn: the reader, the cache, and the result's cells. -/
def UJ2 (w w2 : World) (g : Nat) (l : List Int) (p : Nat) (m : Int) (kv : Value) (keep : List Int) (n : Nat) (w' : World) : Prop :=
  ∃ p', p' ≤ p + 4 * n ∧ Reader w' g l p' ∧ (Below w.heap.size w w' ∧ w2.heap.size ≤ w'.heap.size) ∧ w'.heap[w2.heap.size]? = some (.cells #[.int .i64 m, kv] 27 (0, 0)) ∧ OwnCut w' (g + 1) kv keep ∧ ∃ (x : Int) (a : Option Addr) (k c : Nat), w'.heap[w.heap.size]? = some (.cells #[.int .i64 x, .slice a k c] 27 (0, 0))
section
variable {w w2 wk w5 : World} {g p n : Nat} {l : List Int} {m : Int} {kv : Value} {keep : List Int}
theorem UJ2.step (h : UJ2 w w2 g l p m kv keep n wk) (hw : wk = w5) : UJ2 w w2 g l p m kv keep (n + 1) w5 := by
  subst hw
  obtain ⟨p', hp, r⟩ := h
  exact ⟨p', by omega, r⟩
theorem UJ2.size (h : UJ2 w w2 g l p m kv keep n wk) : w2.heap.size ≤ wk.heap.size := by obtain ⟨_, _, _, ⟨_, h⟩, _⟩ := h; exact h
theorem UJ2.reader (hz : w.heap.size < g ∧ g < w2.heap.size) (h : UJ2 w w2 g l p m kv keep n wk) {p5 : Nat} (hp : p5 ≤ p + 4 * (n + 1)) (r : Reader w5 g l p5) (hg : wk.grownBy w5 (some g)) : UJ2 w w2 g l p m kv keep (n + 1) w5 := by
  obtain ⟨p', hp', hr, ⟨hB, hs⟩, hC, hO, x, ra, rk, rc, hR⟩ := h
  exact ⟨p5, hp, r, ⟨hB.grown hg hB.size (fun b hb => by simp at hb; omega), Nat.le_trans hs hg.size⟩, (hg.block _ (Array.getElem?_eq_some_iff.1 hC).1 (some_ne (by omega))).trans hC, hO.far hg (fun b hb => by simp at hb; omega), x, ra, rk, rc, (hg.block _ (Array.getElem?_eq_some_iff.1 hR).1 (some_ne (by omega))).trans hR⟩
theorem UJ2.alloc (h : UJ2 w w2 g l p m kv keep n wk) (o : Obj) : UJ2 w w2 g l p m kv keep (n + 1) (wk.alloc o) := by
  obtain ⟨p', hp', hr, ⟨hB, hs⟩, hC, hO, x, ra, rk, rc, hR⟩ := h
  have hg := World.grownBy_alloc wk o none
  exact ⟨p', by omega, hr.alloc o, ⟨hB.alloc hB.size _, Nat.le_trans hs hg.size⟩, (hg.block _ (Array.getElem?_eq_some_iff.1 hC).1 (by simp)).trans hC, hO.far hg (by simp), x, ra, rk, rc, (hg.block _ (Array.getElem?_eq_some_iff.1 hR).1 (by simp)).trans hR⟩
theorem UJ2.store (hz : w.heap.size < g ∧ g < w2.heap.size) (h : UJ2 w w2 g l p m kv keep n wk) {x m' : Int} {a a' : Option Addr} {k c k' c' : Nat} (hR : wk.heap[w.heap.size]? = some (.cells #[.int .i64 x, .slice a k c] 27 (0, 0))) :
    UJ2 w w2 g l p m kv keep (n + 1) ((wk.setCell ⟨w.heap.size, 0, none⟩ (.int .i64 m')).setCell ⟨w.heap.size, 1, none⟩ (.slice a' k' c')) := by
  obtain ⟨p', hp', hr, ⟨hB, hs⟩, hC, hO, _, _, _, _, _⟩ := h
  have hg := gb_set2 wk w.heap.size (.int .i64 m') (.slice a' k' c')
  exact ⟨p', by omega, hr.set2 hR (by omega), ⟨(hB.setCell (Nat.le_refl _) _).setCell (Nat.le_refl _) _, Nat.le_trans hs hg.size⟩, (hg.block _ (Array.getElem?_eq_some_iff.1 hC).1 (some_ne (by omega))).trans hC, hO.set hR _ _, _, _, _, _, set2_heap hR⟩
end

def UseIn (w : World) (e : Ending) (w' : World) : Prop := ∃ (m : Int) (v : Value) (keep : List Int) (p : Int), e = .returned (.tuple #[cv m v, .int .i64 p]) ∧ OwnCut w' w.heap.size v keep ∧ keep.length ≤ 8 ∧ Below w.heap.size w w'

set_option maxHeartbeats 2000000 in
theorem spec_DrawUseCache_c (v : Value) (l : List Int) (w : World) (h : Rd encU 1 w w.heap.size v l) (hl : ∀ x ∈ l, 0 ≤ x ∧ x ≤ 255) :
    Calls Try.prog 30 #[v] w (UseIn w) := by
  go_enter Try.func30, Try.ntmps30
  go_wp2_with fail
  refine (spec_l20Open_c v l _ ((h.below ((Below.refl w.heap.size w).alloc (Nat.le_refl _) _) (Nat.le_refl _)).more (by simp)) hl).mono ?_
  rintro e w1 ⟨l', rfl, r1, b1⟩
  have hh1 := (b1.block w.heap.size (by simp)).trans (heap_alloc_new w _)
  have c1 := bl_then ((Below.refl w.heap.size w).alloc (Nat.le_refl _) (.cells #[.int .i64 0, .slice none 0 0] 27)) b1
  obtain ⟨g, hgd⟩ : ∃ g, g = w.heap.size + 1 := ⟨_, rfl⟩
  rw [show (w.alloc (.cells #[.int .i64 0, .slice none 0 0] 27)).heap.size = g by rw [hgd]; simp] at r1 ⊢
  have hwg : w.heap.size < g := by omega
  have hg1 : g < w1.heap.size := r1.lt
  clear hgd b1 h hl
  go_wp2_with fail
  refine (spec_l20Cache_c g 0 l' 9 _ r1 (by omega) (by omega) (by omega)).mono ?_
  rintro e w2 ⟨m, kv, keep, p2, rfl, o2, hk, hp2, r2, g2⟩
  have hh2 := (g2.block w.heap.size (Array.getElem?_eq_some_iff.1 hh1).1 (some_ne (by omega))).trans hh1
  have c2 : Below w.heap.size w w2 := c1.grown g2 c1.size (by simp; omega)
  have hg2 : g < w2.heap.size := r2.lt
  obtain ⟨va, vn, vk, vc, vf, ho1, ho2, rfl, ho4, ho5⟩ := o2
  have o2 : OwnCut w2 w1.heap.size (.slice va vk vc) keep := ⟨va, vn, vk, vc, vf, ho1, ho2, rfl, ho4, ho5⟩
  have hz : w.heap.size < g ∧ g < w2.heap.size := ⟨hwg, hg2⟩
  have hg3 : g + 1 ≤ w1.heap.size := hg1
  clear c1 g2 hh1 r1 ho1 ho2 ho4 ho5
  go_wp2
  refine wp_region_inv3 rfl (by kernel_rfl) (by kernel_rfl) (by kernel_rfl) (by simp) (fun n w' => UJ2 w w2 g l' p2 m (.slice va vk vc) keep n w') (fun w' w'' => ∀ i v, fact (ucF w2.heap.size g m (.slice va vk vc) w.heap.size) i v w' → fact (ucF w2.heap.size g m (.slice va vk vc) w.heap.size) i v w'') (fact (ucF w2.heap.size g m (.slice va vk vc) w.heap.size)) ?jj (fun i v w' w'' hS hf => hS i v hf) ?oo ?fin
  case oo =>
    intro i oo hi qn a' wk hnn hj hb' hd
    have hnn' : qn < 13 := hnn
    obtain ⟨hlt1, rfl⟩ := Array.getElem?_eq_some_iff.1 hi
    have hlt' : i < 13 := hlt1
    clear hi
    obtain rfl | rfl | rfl | rfl | rfl | rfl | rfl | rfl | rfl | rfl | rfl | rfl | rfl : i = 0 ∨ i = 1 ∨ i = 2 ∨ i = 3 ∨ i = 4 ∨ i = 5 ∨ i = 6 ∨ i = 7 ∨ i = 8 ∨ i = 9 ∨ i = 10 ∨ i = 11 ∨ i = 12 := by omega
    · have b5 : a'.eval (.tmp 5) = .pointer (some ⟨w2.heap.size, 0, none⟩) := hb' 5 (by rfl); have c5 := ev_get b5
      obtain ⟨p', hp', hr, hB, hC, hO, hR⟩ := hj
      obtain ⟨x0, x1, _, _⟩ := two_cells hC
      exact iv_val (v := cv m (.slice va vk vc)) (by simp [execOp, c5, x0, x1, go_sem, Result.andThen]) ⟨_, rfl, UJ2.step ⟨p', hp', hr, hB, hC, hO, hR⟩ rfl, (fun _ _ h => h), rfl⟩
    · have b4 : a'.eval (.tmp 4) = .pointer (some ⟨g, 0, none⟩) := hb' 4 (by rfl); have c4 := ev_get b4
      exact iv_val (v := .pointer (some ⟨g, 0, none⟩)) (by simp [execOp, b4]) ⟨_, rfl, hj.step rfl, (fun _ _ h => h), rfl⟩
    · have v1 : a'.eval (.tmp 11) = .pointer (some ⟨g, 0, none⟩) := hd ⟨1, .data⟩ (by simp) rfl; have u1 := ev_get v1
      obtain ⟨p', hp', hr, hB, hC, hO, hR⟩ := hj
      refine iv_enter (f := 62) (args := #[.pointer (some ⟨g, 0, none⟩), .int .i64 12]) (by simp [execOp, u1, go_sem]) ?_
      refine (spec_pick_c g p' l' 12 _ hr (by omega)).mono ?_
      rintro e w5 ⟨x, rfl, y0, y3, _, r5, g5⟩
      have y3' := y3 (by omega)
      exact ⟨_, rfl, _, rfl, UJ2.reader hz ⟨p', hp', hr, hB, hC, hO, hR⟩ (by omega) r5 g5, fun i v h => ucF_gw hz i v _ _ g5 h, (show isI 0 11 _ w5 from ⟨x, rfl, by omega, by omega⟩)⟩
    · have b4 : a'.eval (.tmp 4) = .pointer (some ⟨g, 0, none⟩) := hb' 4 (by rfl); have c4 := ev_get b4
      exact iv_val (v := .pointer (some ⟨g, 0, none⟩)) (by simp [execOp, b4]) ⟨_, rfl, hj.step rfl, (fun _ _ h => h), rfl⟩
    · have v3 : a'.eval (.tmp 13) = .pointer (some ⟨g, 0, none⟩) := hd ⟨3, .data⟩ (by simp) rfl; have u3 := ev_get v3
      obtain ⟨p', hp', hr, hB, hC, hO, hR⟩ := hj
      refine iv_enter (f := 63) (args := #[.pointer (some ⟨g, 0, none⟩), .int .i64 3]) (by simp [execOp, u3, go_sem]) ?_
      refine (spec_l20Print_c g p' l' 3 _ hr (by omega) (by omega) (by omega)).mono ?_
      rintro e w5 ⟨x, p5, rfl, hp5, r5, g5⟩
      exact ⟨_, rfl, _, rfl, UJ2.reader hz ⟨p', hp', hr, hB, hC, hO, hR⟩ (by omega) r5 g5, fun i v h => ucF_gw hz i v _ _ g5 h, (show isN _ w5 from ⟨x, rfl⟩)⟩
    · have e2 : isI 0 11 (a'.eval (.tmp 12)) wk := hd ⟨2, .data⟩ (by simp) rfl
      obtain ⟨x2, v2, _, _⟩ := e2
      have u2 := ev_get v2
      have e4 : isN (a'.eval (.tmp 14)) wk := hd ⟨4, .data⟩ (by simp) rfl
      obtain ⟨x4, v4⟩ := e4
      have u4 := ev_get v4
      have hlt := hj.size
      exact iv_val (v := .slice (some ⟨wk.heap.size, 0, none⟩) 2 2) (w' := wk.alloc (.cells #[.int .i64 x2, .int .i64 x4] 3)) (by simp [execOp, u2, u4, go_sem, Result.andThen]) ⟨_, rfl, hj.alloc _, fun i v h => ucF_gw hz i v _ _ (World.grownBy_alloc _ _ _) h, (show isPair w2.heap.size _ _ from ⟨wk.heap.size, x2, x4, rfl, hlt, heap_alloc_new _ _⟩)⟩
    · have b4 : a'.eval (.tmp 4) = .pointer (some ⟨g, 0, none⟩) := hb' 4 (by rfl); have c4 := ev_get b4
      exact iv_val (v := .pointer (some ⟨g, 0, none⟩)) (by simp [execOp, b4]) ⟨_, rfl, hj.step rfl, (fun _ _ h => h), rfl⟩
    · have v6 : a'.eval (.tmp 16) = .pointer (some ⟨g, 0, none⟩) := hd ⟨6, .data⟩ (by simp) rfl; have u6 := ev_get v6
      obtain ⟨p', hp', hr, hB, hC, hO, hR⟩ := hj
      refine iv_enter (f := 62) (args := #[.pointer (some ⟨g, 0, none⟩), .int .i64 4]) (by simp [execOp, u6, go_sem]) ?_
      refine (spec_pick_c g p' l' 4 _ hr (by omega)).mono ?_
      rintro e w5 ⟨x, rfl, y0, y3, _, r5, g5⟩
      have y3' := y3 (by omega)
      exact ⟨_, rfl, _, rfl, UJ2.reader hz ⟨p', hp', hr, hB, hC, hO, hR⟩ (by omega) r5 g5, fun i v h => ucF_gw hz i v _ _ g5 h, (show isI 0 3 _ w5 from ⟨x, rfl, by omega, by omega⟩)⟩
    · have e7 : isI 0 3 (a'.eval (.tmp 17)) wk := hd ⟨7, .data⟩ (by simp) rfl
      obtain ⟨x7, v7, lo7, hi7⟩ := e7
      have u7 := ev_get v7
      have hdv := div3 lo7 hi7
      exact iv_val (v := .int .i64 (x7 / 3)) (by simp [execOp, u7, hdv, go_sem]) ⟨_, rfl, hj.step rfl, (fun _ _ h => h), (show isI 0 1 _ wk from ⟨_, rfl, by omega, by omega⟩)⟩
    · have e5 : isPair w2.heap.size (a'.eval (.tmp 15)) wk := hd ⟨5, .data⟩ (by simp) rfl
      obtain ⟨bb, x, y, v5, hB5, hh5⟩ := e5
      have u5 := ev_get v5
      have e8 : isI 0 1 (a'.eval (.tmp 18)) wk := hd ⟨8, .data⟩ (by simp) rfl
      obtain ⟨x8, v8, lo8, hi8⟩ := e8
      have u8 := ev_get v8
      obtain ⟨j, rfl⟩ : ∃ j : Nat, x8 = j := ⟨x8.toNat, by omega⟩
      have hj2 : (j : Int) < 2 := by omega
      exact iv_val (v := .pointer (some ⟨bb, j, none⟩)) (by simp [execOp, u5, u8, hj2, go_sem, Result.andThen]) ⟨_, rfl, hj.step rfl, (fun _ _ h => h), (show isCellN w2.heap.size _ wk from ⟨bb, j, x, y, rfl, hB5, hh5, by omega⟩)⟩
    · have e9 : isCellN w2.heap.size (a'.eval (.tmp 19)) wk := hd ⟨9, .data⟩ (by simp) rfl
      obtain ⟨bb, j, x, y, v9, hB9, hh9, hj1⟩ := e9
      have u9 := ev_get v9
      obtain ⟨x0, x1, _, _⟩ := two_cells hh9
      have hjj : j = 0 ∨ j = 1 := by omega
      rcases hjj with rfl | rfl
      · exact iv_val (v := .int .i64 x) (by simp [execOp, u9, x0, go_sem, Result.andThen]) ⟨_, rfl, hj.step rfl, (fun _ _ h => h), (show isN _ wk from ⟨_, rfl⟩)⟩
      · exact iv_val (v := .int .i64 y) (by simp [execOp, u9, x1, go_sem, Result.andThen]) ⟨_, rfl, hj.step rfl, (fun _ _ h => h), (show isN _ wk from ⟨_, rfl⟩)⟩
    · have b2 : a'.eval (.tmp 2) = .pointer (some ⟨w.heap.size, 0, none⟩) := hb' 2 (by rfl); have c2 := ev_get b2
      have v0 : a'.eval (.tmp 10) = cv m (.slice va vk vc) := hd ⟨0, .data⟩ (by simp) rfl; have u0 := ev_get v0
      obtain ⟨p', hp', hr, hB, hC, hO, x, ra, rk, rc, hR⟩ := hj
      obtain ⟨x0, x1, g0, g1⟩ := two_cells hR
      have x1' : (wk.setCell ⟨w.heap.size, 0, none⟩ (.int .i64 m)).cell? ⟨w.heap.size, 1, none⟩ = some (.slice ra rk rc) := by rw [World.cell?_setCell_other _ _ _ _ (by simp)]; exact x1
      have g1' : (wk.setCell ⟨w.heap.size, 0, none⟩ (.int .i64 m)).frozen? ⟨w.heap.size, 1, none⟩ = false := by simpa using g1
      exact iv_skip (w' := (wk.setCell ⟨w.heap.size, 0, none⟩ (.int .i64 m)).setCell ⟨w.heap.size, 1, none⟩ (.slice va vk vc)) (by simp [execOp, c2, u0, x0, x1', g0, g1', go_sem, Result.andThen]) ⟨undef, rfl, UJ2.store hz ⟨p', hp', hr, hB, hC, hO, x, ra, rk, rc, hR⟩ hR, fun i v h => ucF_set hz hR i v h, (show isRes m (.slice va vk vc) w.heap.size (a'.eval (.tmp 2)) _ from set2_heap hR)⟩
    · have e10 : isN (a'.eval (.tmp 20)) wk := hd ⟨10, .data⟩ (by simp) rfl
      exact iv_val (v := a'.eval (.tmp 20)) (by simp [execOp]) ⟨_, rfl, hj.step rfl, (fun _ _ h => h), e10⟩
  case jj =>
    obtain ⟨W, hW⟩ : ∃ W, W = w2.alloc (.cells #[.int .i64 m, .slice va vk vc] 27) := ⟨_, rfl⟩
    have hb : Below w2.heap.size w2 W := by rw [hW]; exact (Below.refl _ _).alloc (Nat.le_refl _) _
    have hC : W.heap[w2.heap.size]? = some (.cells #[.int .i64 m, .slice va vk vc] 27 (0, 0)) := by rw [hW]; exact heap_alloc_new _ _
    have := r2.on hb
    rw [← hW]
    exact ⟨p2, Nat.le_refl _, (r2.on hb).kept (row := none) ⟨rfl, rfl, rfl, Nat.le_refl _, fun _ _ _ => rfl⟩ (by simp), ⟨(bl_then c2 hb).drew, hb.size⟩, hC, ((o2.on hb).less hg3).far (row := none) ⟨rfl, rfl, rfl, Nat.le_refl _, fun _ _ _ => rfl⟩ (by simp), _, _, _, _, (hb.block _ (Array.getElem?_eq_some_iff.1 hh2).1).trans hh2⟩
  case fin =>
    intro tm w4 hj hF
    obtain ⟨x, q3⟩ : isN (tm.getD 3 undef) w4 := hF 12 _ rfl
    have hres : isRes m (.slice va vk vc) w.heap.size (tm.getD 2 undef) w4 := hF 11 _ rfl
    obtain ⟨q0, q1, _, _⟩ := two_cells hres
    obtain ⟨p', _, _, ⟨hB, hs⟩, _, hO, _⟩ := hj
    clear hF
    simp only [refillL, List.setIfInBounds_toArray, List.set_cons_succ, List.set_cons_zero]
    rw [q3]
    go_wp2
    refine bodyPost_ret (v := .tuple #[cv m (.slice va vk vc), .int .i64 x]) (by simp [results, Try.results30, go_sem, q0, q1]; try rfl) rfl ?_
    exact ⟨m, _, keep, x, rfl, hO.less (by omega), hk, hB⟩

end Go.Proofs.Ytnedkfmbeeodfaa
