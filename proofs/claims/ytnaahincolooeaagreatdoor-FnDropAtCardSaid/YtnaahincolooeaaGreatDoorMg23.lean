/- Walks and plain facts, joined: EnD. -/
import Derived.Test.YtnaahincolooeaaGreatDoorMg19
import Derived.Deep.RegionLaw
set_option linter.unusedVariables false
set_option linter.unusedSimpArgs false

/- Rows of entries: one entry is taken out. -/
namespace Go.Proofs.YtnaahincolooeaaGreatDoor
open Go.RowKit

theorem setCells_setRow {w : World} {g o : Nat} {cur : Array Value} {t : TypeId} {vs : List Value} (hg : w.heap[g]? = some (.cells cur t (0, 0))) (hl : o + vs.length ≤ cur.size) (h1 : ∀ v ∈ vs, v.oneCell' = true) :
    w.setCells g o vs = w.setRow g (cur.toList.take o ++ vs ++ cur.toList.drop (o + vs.length)).toArray := by
  have e1 := run_storeCells_at Tryz.prog g o t vs 0 cur w hg (by simpa using hl) h1
  have e2 := run_storeCells_cells (P := Tryz.prog) g o vs 0 w (fun j hj => by simp only [World.cell?, hg]; simp; omega) (fun j _ => frozen_of_row _ _ _ _ _ hg) h1
  rw [e1] at e2
  simp only [Nat.add_zero] at e2
  injection e2 with _ e3
  exact e3.symm
theorem zero_ent : (Builtin.zeroCells (Value.agg #[.string ByteArray.empty, .int .i64 0]).cells 1).toList = [.string ByteArray.empty, .int .i64 0] := by
  first
  | rfl
  | simp [Builtin.zeroCells, Value.cells, List.range_succ]
theorem run_clear_ent (w : World) (ty : TypeId) (g o c : Nat) (cur : Array Value) (t : TypeId) (hg : w.heap[g]? = some (.cells cur t (0, 0))) (hl : o + 2 ≤ cur.size) :
    (Builtin.clear_ #[62] ty #[.slice (some ⟨g, o, none⟩) 1 c]).run Tryz.prog w = .ok (.tuple #[]) (w.setRow g (cur.toList.take o ++ ([.string ByteArray.empty, .int .i64 0] : List Value) ++ cur.toList.drop (o + 2)).toArray) := by
  obtain ⟨i0, hi0, hz0, hz1, hz2⟩ := info_parts info_ent
  have hz : ∀ w, (zeroValue 91).run Tryz.prog w = .ok (.agg #[.string ByteArray.empty, .int .i64 0]) w := fun w => by simp [zeroValue, typeInfo, hi0, hz0]
  have hst := run_storeCells_at Tryz.prog g o t [.string ByteArray.empty, .int .i64 0] 0 cur w hg (by simpa using hl) (by simp [Value.oneCell'])
  simp only [Nat.add_zero, List.length_cons, List.length_nil, Nat.zero_add] at hst
  simp [Builtin.clear_, run_underlying Tryz.underlying62, hz, zero_ent, hst]

/-- The two steps of a deletion, in place. -/
theorem cut_list {α : Type} (cur X : List α) (i n c : Nat) (hX : X.length = n) (hcur : cur.take n = X) (hn : n ≤ cur.length) (z : List α) (hz : z.length = c) (hi : i + c ≤ n) :
    (let r1 := cur.take i ++ X.drop (i + c) ++ cur.drop (i + (X.drop (i + c)).length)
     (r1.take (n - c) ++ z ++ r1.drop (n - c + c))).take (n - c) = X.take i ++ X.drop (i + c) := by
  subst hX
  simp only
  have h1 : (cur.take i).length = i := by simp; omega
  have h2 : cur.take i = X.take i := by rw [← hcur, List.take_take, Nat.min_eq_left (by omega)]
  rw [List.append_assoc, List.take_append_of_le_length (by simp; omega), List.take_take, Nat.min_self, List.take_append_of_le_length (by simp; omega), List.take_of_length_le (by simp; omega), h2]

set_option maxHeartbeats 2000000 in
set_option maxRecDepth 100000 in
theorem delE_c (v : Value) (xs : List Ent) (B i : Nat) (w : World) (h : OwnE w B v xs) (hi : i < xs.length) (hl : xs.length ≤ 1000000) :
    Calls Tryz.prog 113 #[v, .int .i64 i, .int .i64 ((i : Int) + 1)] w fun e w' => ∃ v', e = .returned v' ∧ OwnE w' B v' (xs.take i ++ xs.drop (i + 1)) ∧ w.grownBy w' v.ownBlock := by
  obtain ⟨n, hn⟩ : ∃ n, xs.length = n := ⟨_, rfl⟩
  obtain ⟨i0, hi0, hz0, hz1, hz2⟩ := info_parts info_ent
  rw [hn] at hi hl
  rcases h.2 with ⟨rfl, h2⟩ | ⟨g, cap, cur, hv, hbg, hgh, hnc, hcm, hcs, hct⟩
  · omega
  rw [hn] at hv hnc hct
  subst hv
  have hgw : g < w.heap.size := (Array.getElem?_eq_some_iff.1 hgh).1
  obtain ⟨X, hX⟩ : ∃ X, X = xs.flatMap encE := ⟨_, rfl⟩
  have hXl : X.length = n * 2 := by rw [hX, flatE_len, hn]
  rw [← hX] at hct
  have hcl : cur.toList.length = cap * 2 := by simpa using hcs
  have hXa : ∀ (j : Nat) (v : Value), X[j]? = some v → cur[j]? = some v := by
    intro j v hj
    have hj' := (List.getElem?_eq_some_iff.1 hj).1
    rw [← hct, List.getElem?_take_of_lt (by omega)] at hj
    simpa using hj
  have h1X : ∀ v ∈ X, v.oneCell' = true := by
    intro v hv
    rw [hX] at hv
    obtain ⟨y, hy, hu⟩ := List.mem_flatMap.1 hv
    exact encE_one y hy v hu
  obtain ⟨D, hD⟩ : ∃ D, D = X.drop (i * 2 + 2) := ⟨_, rfl⟩
  have hDl : D.length = (n - (i + 1)) * 2 := by rw [hD, List.length_drop, hXl]; omega
  have hDa : ∀ (j : Nat) (v : Value), D[j]? = some v → cur[(i + 1) * 2 + j]? = some v := by
    intro j v hj
    rw [hD, List.getElem?_drop] at hj
    rw [show (i + 1) * 2 = i * 2 + 2 by omega]
    exact hXa _ _ hj
  have h1D : ∀ v ∈ D, v.oneCell' = true := fun v hv => h1X v (List.mem_of_mem_drop (by rw [← hD]; exact hv))
  obtain ⟨A, hA, hsrc⟩ : ∃ A : Addr, (if cap = i + 1 then some (⟨g, 0, none⟩ : Addr) else some ⟨g, (i + 1) * 2, none⟩) = some A ∧ Hid (∀ t u, D[t]? = some u → w.drew.cell? (A.add t) = some u) := by
    by_cases h : cap = i + 1
    · refine ⟨⟨g, 0, none⟩, by simp [h], fun t u hu => ?_⟩
      have h0 : D.length = 0 := by rw [hDl]; omega
      rw [List.length_eq_zero_iff.1 h0] at hu
      simp at hu
    · refine ⟨⟨g, (i + 1) * 2, none⟩, by simp [h], fun t u hu => ?_⟩
      rw [Addr.add_lit]
      simp only [World.cell?, World.drew, hgh]
      exact hDa t u hu
  obtain ⟨R1, hR1⟩ : ∃ R1 : Array Value, R1 = (cur.toList.take (i * 2) ++ D ++ cur.toList.drop (i * 2 + D.length)).toArray := ⟨_, rfl⟩
  obtain ⟨R2, hR2⟩ : ∃ R2 : Array Value, R2 = (R1.toList.take (n * 2 - 2) ++ ([.string ByteArray.empty, .int .i64 0] : List Value) ++ R1.toList.drop (n * 2 - 2 + 2)).toArray := ⟨_, rfl⟩
  have hfin : R2.toList.take (n * 2 - 2) = X.take (i * 2) ++ D := by
    rw [hR2, hR1, hD]
    exact cut_list cur.toList X (i * 2) (n * 2) 2 hXl hct (by omega) ([.string ByteArray.empty, .int .i64 0] : List Value) rfl (by omega)
  have hs1 : R1.size = cap * 2 := by rw [hR1]; simp [hDl, hcs]; omega
  have hs2 : R2.size = cap * 2 := by rw [hR2]; simp [hs1]; omega
  have hgd : w.drew.heap[g]? = some (.cells cur 91 (0, 0)) := hgh
  obtain ⟨W1, hW1⟩ : ∃ W1, W1 = w.drew.setCells g (0 + i * 2) D := ⟨_, rfl⟩
  have hW1r : W1 = w.drew.setRow g R1 := by rw [hW1, Nat.zero_add, hR1]; exact setCells_setRow hgd (by rw [hDl, hcs]; omega) h1D
  have k1 : W1.heap[g]? = some (.cells R1 91 (0, 0)) := by rw [hW1r]; exact setRow_heap _ g cur R1 _ _ hgd
  have hcl2 : ∀ ty c, (Builtin.clear_ #[62] ty #[.slice (some ⟨g, (n - 1) * 2, none⟩) 1 c]).run Tryz.prog W1 = .ok (.tuple #[]) (W1.setRow g R2) := fun ty c => by
    have := run_clear_ent W1 ty g ((n - 1) * 2) c R1 _ k1 (by rw [hs1]; omega)
    rw [show (n - 1) * 2 = n * 2 - 2 by omega] at this ⊢
    rw [← hR2] at this
    exact this
  have k2 : (W1.setRow g R2).heap[g]? = some (.cells R2 91 (0, 0)) := setRow_heap _ g R1 R2 _ _ k1
  have kw : w.grownBy (W1.setRow g R2) (some g) := by
    rw [hW1r]
    exact (show w.grownBy w.drew (some g) from ⟨rfl, rfl, rfl, Nat.le_refl _, fun _ _ _ => rfl⟩).trans ((grownBy_setRow _ _ _).trans (grownBy_setRow _ _ _))
  have s1 : Hid (D.length = (n - (i + 1)) * 2) := hDl
  have s2 : Hid (∀ u ∈ D, u.oneCell' = true) := h1D
  have s3 : Hid (∀ t, t < D.length → (w.drew.cell? ⟨g, 0 + i * 2 + t, none⟩).isSome = true ∧ w.drew.frozen? ⟨g, 0 + i * 2 + t, none⟩ = false) := by
    intro t ht
    rw [hDl] at ht
    refine ⟨?_, frozen_of_row _ _ _ _ _ hgd⟩
    simp only [World.cell?, hgd]
    simp; omega
  have HF := hid (And.intro hfin (And.intro hs2 (And.intro k2 kw)))
  have HC := hid (And.intro hn (And.intro hnc hcm))
  have HOUT := hid (show (xs.take i ++ xs.drop (i + 1)).flatMap encE = X.take (i * 2) ++ D by rw [List.flatMap_append, hD, hX, flatE_take, flatE_drop, show (i + 1) * 2 = i * 2 + 2 by omega])
  have HOL := hid (show (xs.take i ++ xs.drop (i + 1)).length = n - 1 by simp; omega)
  have hW : Hid (W1 = w.drew.setCells g (0 + i * 2) D) := hW1
  have hw1 : IntKind.i64.wrap ((i : Int) + 1) = (i : Int) + 1 := by rw [IntKind.wrap_i64]; omega
  have htn : ((i : Int) + 1).toNat = i + 1 := by omega
  have hne : ¬ (i : Int) = (i : Int) + 1 := by omega
  have hb1 : (i : Int) + 1 ≤ (n : Int) := by omega
  have hb2 : (0 : Int) ≤ (i : Int) + 1 := by omega
  have hic : i ≤ cap := by omega
  have hn1 : i + (n - (i + 1)) = n - 1 := by omega
  have hnn : n - (n - 1) = 1 := by omega
  have hcn : ¬ cap = n - 1 := by omega
  have hnle : n - 1 ≤ n := by omega
  have hnle2 : n - 1 ≤ cap := by omega
  clear hfin hs1 hs2 hn hcm hDa hXa hct hX hD hR1 hR2 h1X h1D hcl hXl hDl hcs k1 k2 kw hW1r hgd hW1
  go_enter Tryz.func113, Tryz.ntmps113
  go_wp2_with fail
  have mixed : Tryz.prog.follows .mixedOrders = true := by kernel_rfl
  go_region_law_o (refine step_append_room rfl (.tmp 22) (.tmp 25) 62 rfl 91 i0 2 Tryz.underlying62 hi0 hz1 g 0 i cap (by simp [Act.eval, Act.put]) A (n - (i + 1)) (cap - (i + 1)) D (by simp [Act.eval, Act.put]) s1.out hsrc.out s2.out (by omega) s3.out ?_; rw [← hW.out])
  go_wp2_with (simp only [hcl2])
  go_ret
  refine ⟨_, rfl, ⟨by rw [HOL.out, HOUT.out, ← HF.out.1]; simp [HF.out.2.1]; omega, .inr ⟨g, cap, R2, by rw [HOL.out]; rfl, hbg, HF.out.2.2.1, by rw [HOL.out]; omega, HC.out.2.2, HF.out.2.1, by rw [HOL.out, HOUT.out, ← HF.out.1, show (n - 1) * 2 = n * 2 - 2 by omega]⟩⟩, HF.out.2.2.2⟩

end Go.Proofs.YtnaahincolooeaaGreatDoor
