/- Walks: caches that run, the reference's. -/
import Derived.Test.YtnedkfmbeeodfaaRun
import Derived.Test.YtnedkfmbeeodfaaInv2
namespace Go.Proofs.Ytnedkfmbeeodfaa
open Go.RowKit

theorem run_cacheOk {m : Int} {ps keep : List Int} {hits : Nat} (hr : runs m ps = (keep, hits)) (hp : ps.all pv = true) : cacheOk m keep = inB m 1 8 := by
  cases hi : inB m 1 8
  · simp [cacheOk, hi]
  · have := (runs_ok (inB_yes hi).1 (inB_yes hi).2 ps hp).1
    rw [hr] at this
    exact this
theorem run_no1 {m x : Int} {ps : List Int} {k : Nat} (hx : ps[k]? = some x) (h : (inB m 1 8 && pv x) = false) : runOk m ps = false := by
  rw [Bool.and_eq_false_iff] at h
  rcases h with h | h
  · simp [runOk, h]
  · simp [runOk, all_no pv hx h]

def isUse (B : Nat) (m : Int) (b : Bool) (keep : List Int) : Value → World → Prop := fun v w => ∃ (a : Option Addr) (n c : Nat), v = .tuple #[.agg #[.int .i64 m, .slice a n c], .bool b] ∧ OwnCut w B (.slice a n c) keep
def isCv (B : Nat) (m : Int) (keep : List Int) : Value → World → Prop := fun v w => ∃ (a : Option Addr) (n c : Nat), v = .agg #[.int .i64 m, .slice a n c] ∧ OwnCut w B (.slice a n c) keep
def isBox (B : Nat) : Value → World → Prop := fun v w => ∃ (b : Nat) (x y : Value), v = .pointer (some ⟨b, 0, none⟩) ∧ B ≤ b ∧ w.heap[b]? = some (.cells #[x, y] 27 (0, 0))
def isDone (B : Nat) (m : Int) (keep : List Int) : Value → World → Prop := fun v w => ∃ (b : Nat) (a : Option Addr) (n c : Nat), v = .pointer (some ⟨b, 0, none⟩) ∧ B ≤ b ∧ w.heap[b]? = some (.cells #[.int .i64 m, .slice a n c] 27 (0, 0)) ∧ OwnCut w B (.slice a n c) keep
/-- What stands below the heap's end stays. -/
def Grow (f : Value → World → Prop) : Prop := ∀ v w w', Below w.heap.size w w' → f v w → f v w'
theorem isV_gr (u : Value) : Grow (isV u) := fun _ _ _ _ h => h
theorem isUse_gr {B : Nat} {m : Int} {b : Bool} {keep : List Int} : Grow (isUse B m b keep) := fun _ _ _ hb ⟨a, n, c, hv, ho⟩ => ⟨a, n, c, hv, ho.on hb⟩
theorem isCv_gr {B : Nat} {m : Int} {keep : List Int} : Grow (isCv B m keep) := fun _ _ _ hb ⟨a, n, c, hv, ho⟩ => ⟨a, n, c, hv, ho.on hb⟩
theorem isBox_gr {B : Nat} : Grow (isBox B) := fun _ _ _ hb ⟨b, x, y, hv, hB, hh⟩ => ⟨b, x, y, hv, hB, (hb.block b (Array.getElem?_eq_some_iff.1 hh).1).trans hh⟩
theorem isDone_gr {B : Nat} {m : Int} {keep : List Int} : Grow (isDone B m keep) := fun _ _ _ hb ⟨b, a, n, c, hv, hB, hh, ho⟩ => ⟨b, a, n, c, hv, hB, (hb.block b (Array.getElem?_eq_some_iff.1 hh).1).trans hh, ho.on hb⟩
theorem fact_gr {l : List (Value → World → Prop)} (h : ∀ f ∈ l, Grow f) (i : Nat) (v : Value) (w w' : World) (hb : Below w.heap.size w w') (hf : fact l i v w) : fact l i v w' := by
  unfold fact at *
  rw [List.getD_eq_getElem?_getD] at *
  cases hi : l[i]? with
  | none => trivial
  | some f =>
    rw [hi] at hf
    exact h f (List.mem_of_getElem? hi) v w w' hb hf
/-- A cache's cells are written that are no row of numbers. -/
theorem own_ne {w : World} {B b n c : Nat} {a : Option Addr} {xs : List Int} {cs : Array Value} (h : OwnI w B (.slice a n c) xs) (hb : w.heap[b]? = some (.cells cs 27 (0, 0))) : (Value.slice a n c).ownBlock = none ∨ (Value.slice a n c).ownBlock ≠ some b := by
  rcases h.2 with ⟨hv, _⟩ | ⟨g, cap, cur, hv, _, hh, _⟩
  · rw [hv]; exact .inl rfl
  · right
    rw [hv]
    intro he
    obtain rfl : g = b := by simpa [Value.ownBlock] using he
    rw [hb] at hh
    simp at hh
theorem OwnCut.set {w : World} {B b : Nat} {v : Value} {xs : List Int} {cs : Array Value} (h : OwnCut w B v xs) (hb : w.heap[b]? = some (.cells cs 27 (0, 0))) (x' y' : Value) :
    OwnCut ((w.setCell ⟨b, 0, none⟩ x').setCell ⟨b, 1, none⟩ y') B v xs := by
  obtain ⟨a, n, k, c, full, ho, hn, rfl, hk, rfl⟩ := h
  exact ⟨a, n, k, c, full, ho.kept (gb_set2 w b x' y') (own_ne ho hb), hn, rfl, hk, rfl⟩

def runF (B : Nat) (m M : Int) (kv sl : Value) (k : Nat) (p : Addr) (x : Int) (b : Bool) (keep : List Int) : List (Value → World → Prop) :=
  [isV (.agg #[.int .i64 m, kv]), isV sl, isV (.int .i64 k), isV (.pointer (some p)), isV (.int .i64 x), isUse B M b keep, isUse B M b keep, isCv B M keep, isV (.bool b), isBox B, isDone B M keep, isV (.bool b)]
theorem runF_gr {B : Nat} {m M : Int} {kv sl : Value} {k : Nat} {p : Addr} {x : Int} {b : Bool} {keep : List Int} : ∀ f ∈ runF B m M kv sl k p x b keep, Grow f := by
  intro f hf
  simp only [runF, List.mem_cons, List.not_mem_nil, or_false] at hf
  rcases hf with rfl | rfl | rfl | rfl | rfl | rfl | rfl | rfl | rfl | rfl | rfl | rfl
  all_goals first | exact isV_gr _ | exact isUse_gr | exact isCv_gr | exact isBox_gr | exact isDone_gr
theorem runF_set {B : Nat} {m M : Int} {kv sl : Value} {k : Nat} {p : Addr} {x : Int} {hit : Bool} {keep : List Int} {w : World} {b n c : Nat} {a : Option Addr} {x0 y0 : Value}
    (hB : B ≤ b) (hb : w.heap[b]? = some (.cells #[x0, y0] 27 (0, 0))) (ho : OwnCut w B (.slice a n c) keep) (i : Nat) (v : Value) (hf : fact (runF B m M kv sl k p x hit keep) i v w) :
    fact (runF B m M kv sl k p x hit keep) i v ((w.setCell ⟨b, 0, none⟩ (.int .i64 M)).setCell ⟨b, 1, none⟩ (.slice a n c)) := by
  have hi : i < 12 ∨ 12 ≤ i := by omega
  rcases hi with hi | hi
  · obtain rfl | rfl | rfl | rfl | rfl | rfl | rfl | rfl | rfl | rfl | rfl | rfl : i = 0 ∨ i = 1 ∨ i = 2 ∨ i = 3 ∨ i = 4 ∨ i = 5 ∨ i = 6 ∨ i = 7 ∨ i = 8 ∨ i = 9 ∨ i = 10 ∨ i = 11 := by omega
    · exact hf
    · exact hf
    · exact hf
    · exact hf
    · exact hf
    · obtain ⟨a', n', c', hv, ho'⟩ := hf; exact ⟨a', n', c', hv, ho'.set hb _ _⟩
    · obtain ⟨a', n', c', hv, ho'⟩ := hf; exact ⟨a', n', c', hv, ho'.set hb _ _⟩
    · obtain ⟨a', n', c', hv, ho'⟩ := hf; exact ⟨a', n', c', hv, ho'.set hb _ _⟩
    · exact hf
    · obtain ⟨b', x', y', hv, hB', hh⟩ := hf
      by_cases hbb : b' = b
      · subst hbb; exact ⟨_, _, _, hv, hB', set2_heap hb⟩
      · exact ⟨_, _, _, hv, hB', ((gb_set2 w b _ _).block b' (Array.getElem?_eq_some_iff.1 hh).1 (some_ne hbb)).trans hh⟩
    · obtain ⟨b', a', n', c', hv, hB', hh, ho'⟩ := hf
      by_cases hbb : b' = b
      · subst hbb; exact ⟨_, _, _, _, hv, hB', set2_heap hb, ho.set hb _ _⟩
      · exact ⟨_, _, _, _, hv, hB', ((gb_set2 w b _ _).block b' (Array.getElem?_eq_some_iff.1 hh).1 (some_ne hbb)).trans hh, ho'.set hb _ _⟩
    · exact hf
  · unfold fact at *
    rw [List.getD_eq_getElem?_getD, List.getElem?_eq_none (by simpa [runF] using hi)]
    trivial

theorem run_world0 {w w3 : World} {B : Nat} {t : TypeId} {x y x' y' v : Value} {keep : List Int} (hb : Below w.heap.size w w3) (hc : w3.heap[w.heap.size]? = some (.cells #[x, y] t (0, 0))) (ho : OwnCut w3 B v keep) (hB : w.heap.size < B) :
    Below w.heap.size w ((w3.setCell ⟨w.heap.size, 0, none⟩ x').setCell ⟨w.heap.size, 1, none⟩ y') ∧
    ((w3.setCell ⟨w.heap.size, 0, none⟩ x').setCell ⟨w.heap.size, 1, none⟩ y').heap[w.heap.size]? = some (.cells #[x', y'] t (0, 0)) ∧
    OwnCut ((w3.setCell ⟨w.heap.size, 0, none⟩ x').setCell ⟨w.heap.size, 1, none⟩ y') (w.heap.size + 1) v keep := by
  have hg := gb_set2 w3 w.heap.size x' y'
  refine ⟨hb.grown hg hb.size (fun g h => by simp at h; omega), set2_heap hc, (ho.far hg (fun g h => by simp at h; omega)).less hB⟩

set_option maxHeartbeats 2000000 in
theorem spec_RunCache_c (m : Int) (v : Value) (ps : List Int) (w : World) (h : Ints w w.heap.size v ps) (hl : ps.length ≤ 1048576) :
    Calls Try.prog 22 #[.int .i64 m, v] w fun e w' => e = .returned (.int .i64 (runCache m ps)) ∧ Below w.heap.size w w' := by
  obtain ⟨n, hn⟩ : ∃ n, ps.length = n := ⟨_, rfl⟩
  obtain ⟨a, c, rfl, h1, h2, h3⟩ := h.ints hn
  rw [hn] at hl
  have HN := hid hn
  clear hn
  have hal : Below w.heap.size w (w.alloc (.cells #[.int .i64 m, .slice none 0 0] 27)) := (Below.refl _ _).alloc (Nat.le_refl _) _
  go_enter Try.func22, Try.ntmps22
  go_wp2
  go_loopw [6, 7] (fun t i wr => ∃ (k : Nat) (hits : Nat) (kv : Value) (keep : List Int), k ≤ n ∧ i = .int .i64 k ∧ t = .int .i64 hits ∧ hits ≤ k ∧ Hid (runs m (ps.take k) = (keep, hits) ∧ (ps.take k).all pv = true) ∧ Below w.heap.size w wr ∧ wr.heap[w.heap.size]? = some (.cells #[.int .i64 m, kv] 27 (0, 0)) ∧ OwnCut wr (w.heap.size + 1) kv keep) (fun _ i _ => n - (intOf i).toNat)
  case atStart => exact ⟨0, 0, _, [], Nat.zero_le _, rfl, rfl, Nat.le_refl _, ⟨rfl, rfl⟩, hal, heap_alloc_new _ _, OwnCut.nil⟩
  case round =>
    obtain ⟨k, hits, kv, keep, hk, rfl, rfl, hhk, hrun, hb, hcell, hown⟩ := hrel
    clear hal
    have hco := run_cacheOk hrun.out.1 hrun.out.2
    have hz := hb.size
    have hz1 := (Array.getElem?_eq_some_iff.1 hcell).1
    obtain ⟨y0, y1, f0, f1⟩ := two_cells hcell
    by_cases hlt : k < n
    · obtain ⟨b, o, x, rfl, hbl, hx, hc⟩ := h3 k hlt
      have hcx := (hb.cell (p := ⟨b, o + k, none⟩) hbl).trans hc
      clear h3 hc
      go_wp2
      refine wp_region_inv3 rfl (by kernel_rfl) (by kernel_rfl) (by kernel_rfl) (by simp) (fun _ w' => Below wr.heap.size wr w') (fun w' w'' => ∀ i v, fact (runF wr.heap.size m (useMost m keep x) kv (.slice (some ⟨b, o, none⟩) n c) k ⟨b, o + k, none⟩ x (useHit m keep x) (useKeep m keep x)) i v w' → fact (runF wr.heap.size m (useMost m keep x) kv (.slice (some ⟨b, o, none⟩) n c) k ⟨b, o + k, none⟩ x (useHit m keep x) (useKeep m keep x)) i v w'') (fact (runF wr.heap.size m (useMost m keep x) kv (.slice (some ⟨b, o, none⟩) n c) k ⟨b, o + k, none⟩ x (useHit m keep x) (useKeep m keep x))) (Below.refl _ _).drew (fun i v w' w'' hS hf => hS i v hf) ?_ ?_
      · intro i oo hi nn a' w4 hnn hj hb' hd
        obtain ⟨hlt1, rfl⟩ := Array.getElem?_eq_some_iff.1 hi
        have hlt' : i < 12 := hlt1
        clear hi
        obtain rfl | rfl | rfl | rfl | rfl | rfl | rfl | rfl | rfl | rfl | rfl | rfl : i = 0 ∨ i = 1 ∨ i = 2 ∨ i = 3 ∨ i = 4 ∨ i = 5 ∨ i = 6 ∨ i = 7 ∨ i = 8 ∨ i = 9 ∨ i = 10 ∨ i = 11 := by omega
        · have b5 : a'.eval (.tmp 5) = .pointer (some ⟨w.heap.size, 0, none⟩) := hb' 5 (by rfl); have c5 := ev_get b5
          obtain ⟨x0, x1, _, _⟩ := two_cells ((hj.block w.heap.size hz1).trans hcell)
          exact iv_val (v := .agg #[.int .i64 m, kv]) (by simp [execOp, c5, x0, x1, go_sem, Result.andThen]) ⟨_, rfl, hj, fun _ _ h => h, rfl⟩
        · have b1 : a'.eval (.tmp 1) = .slice (some ⟨b, o, none⟩) n c := hb' 1 (by rfl); have c1 := ev_get b1
          exact iv_val (v := .slice (some ⟨b, o, none⟩) n c) (by simp [execOp, b1]) ⟨_, rfl, hj, fun _ _ h => h, rfl⟩
        · have b7 : a'.eval (.tmp 7) = .int .i64 k := hb' 7 (by rfl); have c7 := ev_get b7
          exact iv_val (v := .int .i64 k) (by simp [execOp, b7]) ⟨_, rfl, hj, fun _ _ h => h, rfl⟩
        · have v1 : a'.eval (.tmp 20) = .slice (some ⟨b, o, none⟩) n c := hd ⟨1, .data⟩ (by simp) rfl; have u1 := ev_get v1
          have v2 : a'.eval (.tmp 21) = .int .i64 k := hd ⟨2, .data⟩ (by simp) rfl; have u2 := ev_get v2
          have hkn : (k : Int) < n := by omega
          exact iv_val (v := .pointer (some ⟨b, o + k, none⟩)) (by simp [execOp, u1, u2, hkn, go_sem, Result.andThen]) ⟨_, rfl, hj, fun _ _ h => h, rfl⟩
        · have v3 : a'.eval (.tmp 22) = .pointer (some ⟨b, o + k, none⟩) := hd ⟨3, .data⟩ (by simp) rfl; have u3 := ev_get v3
          have hcx' := (hj.cell (p := ⟨b, o + k, none⟩) (show b < _ by omega)).trans hcx
          exact iv_val (v := .int .i64 x) (by simp [execOp, u3, hcx', go_sem, Result.andThen]) ⟨_, rfl, hj, fun _ _ h => h, rfl⟩
        · have v0 : a'.eval (.tmp 19) = .agg #[.int .i64 m, kv] := hd ⟨0, .data⟩ (by simp) rfl; have u0 := ev_get v0
          have v4 : a'.eval (.tmp 23) = .int .i64 x := hd ⟨4, .data⟩ (by simp) rfl; have u4 := ev_get v4
          refine iv_enter (f := 26) (args := #[.agg #[.int .i64 m, kv], .int .i64 x]) (by simp [execOp, u0, u4, go_sem]) ?_
          refine (spec_UseCache_c m _ keep x _ ((hown.on hj).rd)).mono ?_
          rintro e w5 ⟨v', rfl, o5, b5⟩
          obtain ⟨ka, kn, kk, kc, kf, q1, q2, rfl, q4, q5⟩ := o5
          exact ⟨_, rfl, _, rfl, hj.trans (b5.mono hj.size), fun i v h => fact_gr runF_gr i v _ _ b5 h, (show isUse _ _ _ _ _ _ from ⟨_, _, _, rfl, (show OwnCut w5 _ _ _ from ⟨ka, kn, kk, kc, kf, q1, q2, rfl, q4, q5⟩).less hj.size⟩)⟩
        · have e5 : isUse wr.heap.size (useMost m keep x) (useHit m keep x) (useKeep m keep x) (a'.eval (.tmp 24)) w4 := hd ⟨5, .data⟩ (by simp) rfl
          exact iv_val (v := a'.eval (.tmp 24)) (by simp [execOp]) ⟨_, rfl, hj, fun _ _ h => h, e5⟩
        · have e6 : isUse wr.heap.size (useMost m keep x) (useHit m keep x) (useKeep m keep x) (a'.eval (.tmp 18)) w4 := hd ⟨6, .data⟩ (by simp) rfl
          obtain ⟨ka, kn, kc, v6, o6⟩ := e6
          have u6 := ev_get v6
          exact iv_val (v := .agg #[.int .i64 (useMost m keep x), .slice ka kn kc]) (by simp [execOp, u6, go_sem]) ⟨_, rfl, hj, fun _ _ h => h, (show isCv _ _ _ _ _ from ⟨_, _, _, rfl, o6⟩)⟩
        · have e6 : isUse wr.heap.size (useMost m keep x) (useHit m keep x) (useKeep m keep x) (a'.eval (.tmp 18)) w4 := hd ⟨6, .data⟩ (by simp) rfl
          obtain ⟨ka, kn, kc, v6, o6⟩ := e6
          have u6 := ev_get v6
          exact iv_val (v := .bool (useHit m keep x)) (by simp [execOp, u6, go_sem]) ⟨_, rfl, hj, fun _ _ h => h, rfl⟩
        · exact iv_val (v := .pointer (some ⟨w4.heap.size, 0, none⟩)) (w' := w4.alloc (.cells #[.int .i64 0, .slice none 0 0] 27)) (by simp [execOp, go_sem, Result.andThen]) ⟨_, rfl, hj.alloc hj.size _, fun i v h => fact_gr runF_gr i v _ _ ((Below.refl _ _).alloc (Nat.le_refl _) _) h, (show isBox _ _ _ from ⟨_, _, _, rfl, hj.size, heap_alloc_new _ _⟩)⟩
        · have e9 : isBox wr.heap.size (a'.eval (.tmp 8)) w4 := hd ⟨9, .data⟩ (by simp) rfl
          obtain ⟨bb, x9, y9, v9, hB9, hh9⟩ := e9
          have u9 := ev_get v9
          have e7 : isCv wr.heap.size (useMost m keep x) (useKeep m keep x) (a'.eval (.tmp 25)) w4 := hd ⟨7, .data⟩ (by simp) rfl
          obtain ⟨ka, kn, kc, v7, o7⟩ := e7
          have u7 := ev_get v7
          obtain ⟨s0, s1, g0, g1⟩ := two_cells hh9
          have s1' : (w4.setCell ⟨bb, 0, none⟩ (.int .i64 (useMost m keep x))).cell? ⟨bb, 1, none⟩ = some y9 := by rw [World.cell?_setCell_other _ _ _ _ (by simp)]; exact s1
          have g1' : (w4.setCell ⟨bb, 0, none⟩ (.int .i64 (useMost m keep x))).frozen? ⟨bb, 1, none⟩ = false := by simpa using g1
          exact iv_skip (w' := (w4.setCell ⟨bb, 0, none⟩ (.int .i64 (useMost m keep x))).setCell ⟨bb, 1, none⟩ (.slice ka kn kc)) (by simp [execOp, u9, u7, s0, s1', g0, g1', go_sem, Result.andThen]) ⟨undef, rfl, (hj.setCell hB9 _).setCell hB9 _, fun i v h => runF_set hB9 hh9 o7 i v h, (show isDone _ _ _ (a'.eval (.tmp 8)) _ from ⟨bb, _, _, _, v9, hB9, set2_heap hh9, o7.set hh9 _ _⟩)⟩
        · have v8 : a'.eval (.tmp 26) = .bool (useHit m keep x) := hd ⟨8, .data⟩ (by simp) rfl
          exact iv_val (v := .bool (useHit m keep x)) (by simp [execOp, v8]) ⟨_, rfl, hj, fun _ _ h => h, rfl⟩
      · intro tm w4 hj hF
        have q8 : isDone wr.heap.size (useMost m keep x) (useKeep m keep x) (tm.getD 8 undef) w4 := hF 10 _ rfl
        have q9 : tm.getD 9 undef = .bool (useHit m keep x) := hF 11 _ rfl
        obtain ⟨bb, ka, kn, kc, q8, hbb, hd8, o8⟩ := q8
        clear hF
        simp only [refillL, List.setIfInBounds_toArray, List.set_cons_succ, List.set_cons_zero]
        rw [q8, q9]
        obtain ⟨s0, s1, _, _⟩ := two_cells hd8
        have hcell4 := (hj.block w.heap.size hz1).trans hcell
        obtain ⟨d0, d1, g0, g1⟩ := two_cells hcell4
        clear y0 y1 f0 f1 q8 q9
        cases hok : (inB m 1 8 && pv x)
        · have hno := hid (run_off (run_no1 hx.out hok))
          have hus : useOk m keep x = false := by unfold useOk; rw [hco]; exact hok
          rw [(use_off hus).1] at s0
          go_wp2
          go_ret
          exact ⟨ret_i hno.out.symm, bl_then hb hj⟩
        · have hus : useOk m keep x = true := by unfold useOk; rw [hco]; exact hok
          obtain ⟨u1, u2, u3⟩ := use_on hus
          have hpx : pv x = true := (Bool.and_eq_true_iff.1 hok).2
          have hm1 := (inB_yes (Bool.and_eq_true_iff.1 hok).1).1
          rw [u1] at s0 hd8
          have hm0 : (m == 0) = false := beq_eq_false_iff_ne.2 (by omega)
          have hall := hid (show (ps.take (k + 1)).all pv = true by rw [all_succ pv hx.out, hrun.out.2, hpx]; rfl)
          have hrun' := hid ((runs_succ hx.out (m := m)).trans (by rw [hrun.out.1]))
          obtain ⟨R1, R2, R3⟩ := run_world0 (x' := .int .i64 m) (y' := .slice ka kn kc) (bl_then hb hj) hcell4 o8 hz1
          have Q1 := hid R1
          have Q2 := hid R2
          have Q3 := hid R3
          have U := hid (And.intro u2 u3)
          clear R1 R2 R3 hok hus hpx hcell4 u1 u2 u3
          cases hh : useHit m keep x
          · have U4 := hid (show hits = hits + if hasI keep x then 1 else 0 by rw [← U.out.2, hh]; rfl)
            go_wp2
            go_roundw
            case rel => exact ⟨k + 1, hits, _, _, by omega, by go_num, rfl, by omega, ⟨by rw [hrun'.out, U.out.1]; exact Prod.ext rfl U4.out.symm, hall.out⟩, Q1.out, Q2.out, Q3.out⟩
            case measure => simp [intOf]; omega
          · have U4 := hid (show hits + 1 = hits + if hasI keep x then 1 else 0 by rw [← U.out.2, hh]; rfl)
            go_wp2
            go_roundw
            case rel => exact ⟨k + 1, hits + 1, _, _, by omega, by go_num, by go_num, by omega, ⟨by rw [hrun'.out, U.out.1]; exact Prod.ext rfl U4.out.symm, hall.out⟩, Q1.out, Q2.out, Q3.out⟩
            case measure => simp [intOf]; omega
    · have hr := hrun.out
      rw [take_all HN.out (show n ≤ k by omega)] at hr
      clear h3 hrun
      by_cases h40 : 40 < n
      · have hno := hid (run_off (m := m) (ps := ps) (by have := HN.out; simp [runOk]; omega))
        go_wp2
        go_ret
        exact ⟨ret_i hno.out.symm, hb⟩
      · cases hi : inB m 1 8
        · have hno := hid (run_off (m := m) (ps := ps) (by simp [runOk, hi]))
          rw [hi] at hco
          go_wp2_with fail
          refine (spec_CacheValid_c m _ keep _ wr hown.rd (Nat.le_refl _)).mono ?_
          rw [hco]
          rintro e w5 ⟨rfl, b5⟩
          go_wp2
          go_ret
          exact ⟨ret_i hno.out.symm, bl_then hb b5⟩
        · have HR := hid (show runCache m ps = hits by rw [run_on (by simp [runOk, hi, hr.2, HN.out]; omega), hr.1])
          rw [hi] at hco
          go_wp2_with fail
          refine (spec_CacheValid_c m _ keep _ wr hown.rd (Nat.le_refl _)).mono ?_
          rw [hco]
          rintro e w5 ⟨rfl, b5⟩
          go_wp2
          go_ret
          exact ⟨ret_i HR.out.symm, bl_then hb b5⟩

end Go.Proofs.Ytnedkfmbeeodfaa
