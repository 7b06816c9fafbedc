/- Walks: caches that run. -/
import Derived.Test.YtnedkfmbeeodfaaCache3
namespace Go.Proofs.Ytnedkfmbeeodfaa
open Go.RowKit

theorem runStep_on {m p : Int} {l : List Int} {h : Nat} (hc : cacheOk m l = true) (hp : pv p = true) : useOk m l p = true ∧ useMost m l p = m ∧ useKeep m l p = (runStep m (l, h) p).1 ∧ (runStep m (l, h) p).2 = h + (if useHit m l p then 1 else 0) := by
  have h1 : useOk m l p = true := by simp [useOk, hc, hp]
  obtain ⟨a, b, c⟩ := use_on h1
  exact ⟨h1, a, b, by rw [c]; rfl⟩

theorem run_world {w w3 : World} {B : Nat} {t : TypeId} {x y x' y' v : Value} {keep : List Int} (hb : Below w.heap.size w w3) (hc : w3.heap[w.heap.size]? = some (.cells #[x, y] t (0, 0))) (ho : OwnCut w3 B v keep) (hB : w.heap.size < B) (o : Obj) :
    Below w.heap.size w (((w3.setCell ⟨w.heap.size, 0, none⟩ x').setCell ⟨w.heap.size, 1, none⟩ y').alloc o) ∧
    (((w3.setCell ⟨w.heap.size, 0, none⟩ x').setCell ⟨w.heap.size, 1, none⟩ y').alloc o).heap[w.heap.size]? = some (.cells #[x', y'] t (0, 0)) ∧
    OwnCut (((w3.setCell ⟨w.heap.size, 0, none⟩ x').setCell ⟨w.heap.size, 1, none⟩ y').alloc o) (w.heap.size + 1) v keep := by
  have hg := gb_set2 w3 w.heap.size x' y'
  have hlt := (Array.getElem?_eq_some_iff.1 hc).1
  have hg2 : w3.grownBy (((w3.setCell ⟨w.heap.size, 0, none⟩ x').setCell ⟨w.heap.size, 1, none⟩ y').alloc o) (some w.heap.size) := gb_alloc hg o
  refine ⟨hb.grown hg2 hb.size (fun g h => by simp at h; omega), (Below.heap_alloc _ _ _ (Nat.lt_of_lt_of_le hlt hg.size)).trans (set2_heap hc), (ho.far hg2 (fun g h => by simp at h; omega)).less hB⟩

set_option maxHeartbeats 2000000 in
theorem impl_RunCache_c (m : Int) (v : Value) (ps : List Int) (w : World) (h : Ints w w.heap.size v ps) :
    Calls Try.prog 24 #[.int .i64 m, v] w fun e w' => e = .returned (.int .i64 (runCache m ps)) ∧ Below w.heap.size w w' := by
  obtain ⟨n, hn⟩ : ∃ n, ps.length = n := ⟨_, rfl⟩
  obtain ⟨a, c, rfl, h1, h2, h3⟩ := h.ints hn
  have HN := hid hn
  clear hn
  by_cases c1 : m < 1
  · have HO := hid (run_off (m := m) (ps := ps) (by simp [runOk, inB]; omega))
    clear h3
    go_enter Try.func24, Try.ntmps24
    go_wp2
    go_ret
    exact ⟨ret_i HO.out.symm, Below.refl _ _⟩
  by_cases c2 : 8 < m
  · have HO := hid (run_off (m := m) (ps := ps) (by simp [runOk, inB]; omega))
    clear h3
    go_enter Try.func24, Try.ntmps24
    go_wp2
    go_ret
    exact ⟨ret_i HO.out.symm, Below.refl _ _⟩
  by_cases c3 : 40 < n
  · have HO := hid (run_off (m := m) (ps := ps) (by have := HN.out; simp [runOk]; omega))
    clear h3
    go_enter Try.func24, Try.ntmps24
    go_wp2
    go_ret
    exact ⟨ret_i HO.out.symm, Below.refl _ _⟩
  cases hv : ps.all pv
  · have HO := hid (run_off (m := m) (ps := ps) (by simp [runOk, hv]))
    clear h3
    go_enter Try.func24, Try.ntmps24
    go_wp2_with (go_at_call 61; refine (impl_printsValid_c _ _ _ _ h).mono ?_; rw [hv]; rintro e w' ⟨rfl, rfl⟩)
    go_ret
    exact ⟨ret_i HO.out.symm, Below.refl _ _⟩
  · have HO := hid (show runOk m ps = true by simp [runOk, hv, HN.out, inB]; omega)
    have hm1 : 1 ≤ m := by omega
    have hm8 : m ≤ 8 := by omega
    have HV := hid hv
    have hal : Below w.heap.size w (w.alloc (.cells #[.int .i64 m, .slice none 0 0] 27)) := (Below.refl _ _).alloc (Nat.le_refl _) _
    go_enter Try.func24, Try.ntmps24
    go_wp2_with (go_at_call 61; refine (impl_printsValid_c _ _ _ _ h).mono ?_; rw [hv]; rintro e w' ⟨rfl, rfl⟩)
    clear hv
    go_loopw [6, 31] (fun t i wr => ∃ (k : Nat) (hits : Nat) (kv : Value) (keep : List Int), k ≤ n ∧ i = .int .i64 k ∧ t = .int .i64 hits ∧ hits ≤ k ∧ Hid (runs m (ps.take k) = (keep, hits)) ∧ Below w.heap.size w wr ∧ wr.heap[w.heap.size]? = some (.cells #[.int .i64 m, kv] 27 (0, 0)) ∧ OwnCut wr (w.heap.size + 1) kv keep) (fun _ i _ => n - (intOf i).toNat)
    case atStart => exact ⟨0, 0, _, [], Nat.zero_le _, rfl, rfl, Nat.le_refl _, rfl, hal, heap_alloc_new _ _, OwnCut.nil⟩
    case round =>
      obtain ⟨k, hits, kv, keep, hk, rfl, rfl, hhk, hrun, hb, hcell, hown⟩ := hrel
      clear hal
      by_cases hlt : k < n
      · obtain ⟨b, o, x, rfl, hbl, hx, hc⟩ := h3 k hlt
        have hcx : wr.cell? ⟨b, o + k, none⟩ = some (.int .i64 x) := (hb.cell (p := ⟨b, o + k, none⟩) hbl).trans hc
        have hpx := all_get pv hx.out HV.out
        have hok : cacheOk m keep = true := by
          have := (runs_ok hm1 hm8 (ps.take k) (by rw [List.all_eq_true]; intro y hy; exact List.all_eq_true.1 HV.out y (List.mem_of_mem_take hy))).1
          rw [hrun.out] at this
          exact this
        obtain ⟨u1, u2, u3, u4⟩ := runStep_on (h := hits) hok hpx
        have hrun' := hid ((runs_succ hx.out (m := m)).trans (by rw [hrun.out]))
        have hz := hb.size
        have hz1 := (Array.getElem?_eq_some_iff.1 hcell).1
        obtain ⟨y0, y1, f0, f1⟩ := two_cells hcell
        clear h3 hc hrun hok hpx
        go_wp2_with fail
        refine (impl_UseCache_c m _ keep x wr hown.rd).mono ?_
        rintro e w3 ⟨v', rfl, o3, b3⟩
        rw [u2, u3] at *
        have hcell3 := (b3.block w.heap.size hz1).trans hcell
        have hz3 := b3.size
        obtain ⟨z0, z1, g0, g1⟩ := two_cells hcell3
        have hz4 : w.heap.size < w3.heap.size := by omega
        obtain ⟨kn, hkn⟩ : ∃ kn, (runStep m (keep, hits) x).1.length = kn := ⟨_, rfl⟩
        obtain ⟨ka, kc, rfl, _, _, _⟩ := (Rd.of_own o3).ints hkn
        have HKN := hid hkn
        clear hkn u2 u3
        obtain ⟨R1, R2, R3⟩ := run_world (x' := .int .i64 m) (y' := .slice ka kn kc) (bl_then hb b3) hcell3 (OwnCut.of o3) hz1 (.cells #[.int .i64 m, .slice ka kn kc] 27)
        have Q1 := hid R1
        have Q2 := hid R2
        have Q3 := hid R3
        have hhits : hits ≤ 40 := by omega
        clear R1 R2 R3
        cases hh : useHit m keep x
        · rw [hh] at u4
          have U4 := hid u4
          clear u4
          go_wp2
          go_roundw
          case rel => exact ⟨k + 1, hits, _, _, by omega, by go_num, rfl, by omega, by unfold Hid; rw [hrun'.out]; exact Prod.ext rfl U4.out, Q1.out, Q2.out, Q3.out⟩
          case measure => simp [intOf]; omega
        · rw [hh] at u4
          have U4 := hid u4
          clear u4
          go_wp2
          go_roundw
          case rel => exact ⟨k + 1, hits + 1, _, _, by omega, by go_num, by go_num, by omega, by unfold Hid; rw [hrun'.out]; exact Prod.ext rfl U4.out, Q1.out, Q2.out, Q3.out⟩
          case measure => simp [intOf]; omega
      · have hr := hrun.out
        rw [take_all HN.out (show n ≤ k by omega)] at hr
        have HR := hid (show runCache m ps = hits by rw [run_on HO.out, hr])
        clear hr hrun h3
        go_wp2
        go_ret
        exact ⟨ret_i HR.out.symm, hb⟩

end Go.Proofs.Ytnedkfmbeeodfaa
