/- Walks and plain facts, joined: PcO. -/
import Derived.Test.YtachfmlfmpaddaaGreatDoorMg7
import Derived.Laws.CopyRow
import Derived.Lib.AppendZerosOnto
import Derived.Shelf.RegionOpenPlain
import Derived.Shelf.Spec.SlicesInsert
set_option linter.unusedVariables false
set_option linter.unusedSimpArgs false

/- Rows of pieces of a call's own: append, copies, insertion. -/
namespace Go.Proofs.YtachfmlfmpaddaaGreatDoor
open Go.RowKit

theorem info_pcO : (Tryz.prog.info? 60).map (fun i => (i.zero, i.size, i.bytes)) = some (some (.agg #[.int .i64 0, .string ByteArray.empty]), 2, 24) := by kernel_rfl
abbrev OwnP := Own encP 60 2
theorem lit_rdP {w : World} {b : Nat} {r : Int} {t : ByteArray} (h : w.heap[b]? = some (.cells #[.int .i64 r, .string t] 60 (0, 0))) : Pcs w w.heap.size (.slice (some ⟨b, 0, none⟩) 1 1) [⟨r, t⟩] := by
  refine ⟨_, _, rfl, by simp, by simp [maxLen], by simp, fun _ => ⟨_, _, rfl, (Array.getElem?_eq_some_iff.1 h).1, fun j u hu => ?_⟩⟩
  rw [Nat.zero_add]
  simp only [World.cell?, h]
  simpa using hu
theorem encP_one {xs : List Pc} : ∀ y ∈ xs, ∀ u ∈ encP y, u.oneCell' = true := by
  intro y _ u hu
  simp at hu
  rcases hu with rfl | rfl <;> rfl

theorem flatP_take (xs : List Pc) (i : Nat) : (xs.take i).flatMap encP = (xs.flatMap encP).take (i * 2) := by
  induction xs generalizing i with
  | nil => simp
  | cons x r ih =>
    cases i with
    | zero => simp
    | succ i => rw [List.take_succ_cons, List.flatMap_cons, List.flatMap_cons, ih, show (i + 1) * 2 = i * 2 + 1 + 1 by omega]; rfl
theorem flatP_drop (xs : List Pc) (i : Nat) : (xs.drop i).flatMap encP = (xs.flatMap encP).drop (i * 2) := by
  induction xs generalizing i with
  | nil => simp
  | cons x r ih =>
    cases i with
    | zero => simp
    | succ i => rw [List.drop_succ_cons, List.flatMap_cons, ih, show (i + 1) * 2 = i * 2 + 1 + 1 by omega]; rfl

/-- copy on elements of k cells: all is read before anything is written. -/
theorem run_copy_rowK {P : Program} (w : World) (dT sT ty elem : TypeId) (g o dLen dCap : Nat) (a : Addr) (sLen sCap : Nat) (cur : Array Value) (t : TypeId) (cs : List Value) (k n : Nat)
    (hu : P.underlying dT = some (.slice elem)) (hs : (P.info? elem).map (·.size) = some k)
    (hg : w.heap[g]? = some (.cells cur t (0, 0))) (hm : Nat.min sLen dLen = n) (hn : cs.length = n * k)
    (hsrc : ∀ j v, cs[j]? = some v → w.cell? (a.add j) = some v) (hfit : o + cs.length ≤ cur.size) (h1 : ∀ v ∈ cs, v.oneCell' = true) :
    (Builtin.copy_ #[dT, sT] ty #[.slice (some ⟨g, o, none⟩) dLen dCap, .slice (some a) sLen sCap]).run P w =
      .ok (goInt n) (w.setRow g (cur.toList.take o ++ cs ++ cur.toList.drop (o + cs.length)).toArray) := by
  have hl := run_loadCells_list (P := P) w a cs hsrc
  have hst := run_storeCells_at P g o t cs 0 cur w hg (by simpa using hfit) h1
  cases hq : P.info? elem with
  | none => simp [hq] at hs
  | some i =>
    have hi : i.size = k := by simpa [hq] using hs
    simp [Builtin.copy_, run_underlying hu, Builtin.lenOf, Builtin.firstCells, sizeOf, typeInfo, hq, hi, hm, ← hn, hl, hst]

theorem grownBy_setRow (w : World) (g : Nat) (cs : Array Value) : w.grownBy (w.setRow g cs) (some g) :=
  ⟨rfl, rfl, rfl, by simp [World.setRow], fun k _ hk => setRow_other w g k cs (fun e => hk (by rw [e]))⟩

/-- The two copies of an insertion, in place. -/
theorem shift_list {α : Type} (cur X : List α) (i n : Nat) (hX : X.length = n) (hn : n ≤ cur.length) (hcur : cur.take n = X) (k : Nat) (e : List α) (he : e.length = k) (hk : n + k ≤ cur.length) (hi : i ≤ n) :
    (let r1 := cur.take (i + k) ++ X.drop i ++ cur.drop (i + k + (X.drop i).length)
     (r1.take i ++ e ++ r1.drop (i + e.length))).take (n + k) = X.take i ++ (e ++ X.drop i) := by
  subst hX
  simp only
  have hl : (X.drop i).length = X.length - i := by simp
  have h1 : (cur.take (i + k)).length = i + k := by simp; omega
  rw [hl, he]
  have e1 : (cur.take (i + k) ++ X.drop i ++ cur.drop (i + k + (X.length - i))).take i = X.take i := by
    rw [List.append_assoc, List.take_append_of_le_length (by omega), List.take_take, Nat.min_eq_left (by omega), ← hcur, List.take_take, Nat.min_eq_left hi]
  have e2 : (cur.take (i + k) ++ X.drop i ++ cur.drop (i + k + (X.length - i))).drop (i + k) = X.drop i ++ cur.drop (i + k + (X.length - i)) := by
    rw [List.append_assoc, List.drop_append_of_le_length (by omega), List.drop_of_length_le (by omega), List.nil_append]
  rw [e1, e2, ← List.append_assoc, ← List.append_assoc]
  rw [List.take_append_of_le_length (by simp; omega), List.take_of_length_le (by simp; omega)]

set_option maxHeartbeats 2000000 in
set_option maxRecDepth 100000 in
theorem insP_c (v : Value) (xs : List Pc) (B i vb : Nat) (r : Int) (t : ByteArray) (w : World) (h : OwnP w B v xs) (hi : i ≤ xs.length) (hB : B ≤ w.heap.size) (hvb : w.heap[vb]? = some (.cells #[.int .i64 r, .string t] 60 (0, 0))) (hne : v.ownBlock ≠ some vb) (hl : xs.length ≤ 1000000) :
    Calls Tryz.prog 150 #[v, .int .i64 i, .slice (some ⟨vb, 0, none⟩) 1 1] w fun e w' => ∃ v', e = .returned v' ∧ OwnP w' B v' (xs.take i ++ ⟨r, t⟩ :: xs.drop i) ∧ w.grownBy w' v.ownBlock := by
  obtain ⟨n, hn⟩ : ∃ n, xs.length = n := ⟨_, rfl⟩
  obtain ⟨i0, hi0, hz0, hz1, hz2⟩ := info_parts info_pcO
  rw [hn] at hi hl
  by_cases hin : i = n
  · subst hin
    have hap : xs.take i ++ ⟨r, t⟩ :: xs.drop i = xs ++ [⟨r, t⟩] := by rw [List.take_of_length_le (by omega), List.drop_of_length_le (by omega)]
    have HAP := hid hap
    clear hap
    have h0 := h
    rcases h.2 with ⟨rfl, h2⟩ | ⟨g, cap, cur, hv, hbg, hgh, hnc, hcm, hcs, hct⟩
    · obtain rfl : i = 0 := by omega
      go_enter Tryz.func150, Tryz.ntmps150
      go_wp2_with (at_builtin; refine wpList_cat (enc := encP) (w0 := w) rfl _ _ 23 rfl B B 60 i0 _ 2 24 Tryz.underlying23 hi0 hz0 hz1 hz2 rfl (by decide) _ _ xs [⟨r, t⟩] h0 _ (lit_rdP hvb) (Below.refl _ _) hB (Nat.le_refl _) rfl rfl encP_one (by simp; omega) (by decide) ?_; intro v' w' hown' hb' hB' hg')
      go_ret
      exact ⟨_, rfl, by rw [HAP.out]; exact hown', hg'.1⟩
    · rw [hn] at hv
      subst hv
      have HN := hid hn
      clear hn
      go_enter Tryz.func150, Tryz.ntmps150
      go_wp2_with (at_builtin; refine wpList_cat (enc := encP) (w0 := w) rfl _ _ 23 rfl B B 60 i0 _ 2 24 Tryz.underlying23 hi0 hz0 hz1 hz2 rfl (by decide) _ _ xs [⟨r, t⟩] h0 _ (lit_rdP hvb) (Below.refl _ _) hB (Nat.le_refl _) rfl rfl encP_one (by have := HN.out; simp; omega) (by decide) ?_; intro v' w' hown' hb' hB' hg')
      all_goals
        go_ret
        exact ⟨_, rfl, by rw [HAP.out]; exact hown', hg'.1⟩
  · have hlt : i < n := by omega
    rcases h.2 with ⟨rfl, h2⟩ | ⟨g, cap, cur, hv, hbg, hgh, hnc, hcm, hcs, hct⟩
    · omega
    rw [hn] at hv hnc hct
    subst hv
    have hgv : g ≠ vb := fun e => hne (by rw [e]; rfl)
    have hgw : g < w.heap.size := (Array.getElem?_eq_some_iff.1 hgh).1
    have hvw : vb < w.heap.size := (Array.getElem?_eq_some_iff.1 hvb).1
    obtain ⟨X, hX⟩ : ∃ X, X = xs.flatMap encP := ⟨_, rfl⟩
    have hXl : X.length = n * 2 := by rw [hX, flatP_len, hn]
    rw [← hX] at hct
    have hcl : cur.toList.length = cap * 2 := by simpa using hcs
    have hXa : ∀ (j : Nat) (v : Value), X[j]? = some v → cur[j]? = some v := by
      intro j v hj
      have hj' := (List.getElem?_eq_some_iff.1 hj).1
      rw [← hct, List.getElem?_take_of_lt (by omega)] at hj
      simpa using hj
    have h1X : ∀ v ∈ X, v.oneCell' = true := by
      intro v hv
      rw [hX] at hv
      obtain ⟨y, hy, hu⟩ := List.mem_flatMap.1 hv
      exact encP_one y hy v hu
    have hsz : (Tryz.prog.info? 60).map (·.size) = some 2 := by rw [hi0]; simp [hz1]
    have hzz : ∀ w, (Go.sizeOf 60).run Tryz.prog w = .ok 2 w := fun w => by simp [Go.sizeOf, typeInfo, hi0, hz1]
    obtain ⟨D, hD⟩ : ∃ D, D = X.drop (i * 2) := ⟨_, rfl⟩
    have hDl : D.length = (n - i) * 2 := by rw [hD, List.length_drop, hXl]; omega
    have hDa : ∀ (j : Nat) (v : Value), D[j]? = some v → cur[i * 2 + j]? = some v := by
      intro j v hj
      rw [hD, List.getElem?_drop] at hj
      exact hXa _ _ hj
    have h1D : ∀ v ∈ D, v.oneCell' = true := fun v hv => h1X v (List.mem_of_mem_drop (by rw [← hD]; exact hv))
    have h1E : ∀ v ∈ ([.int .i64 r, .string t] : List Value), v.oneCell' = true := by simp [Value.oneCell']
    have hout : xs.flatMap encP = X → (xs.take i ++ ⟨r, t⟩ :: xs.drop i).flatMap encP = X.take (i * 2) ++ ([.int .i64 r, .string t] ++ D) := by
      intro _
      rw [List.flatMap_append, List.flatMap_cons, hD, hX, flatP_take, flatP_drop]
    have HOUT := hid (hout hX.symm)
    have hol : (xs.take i ++ ⟨r, t⟩ :: xs.drop i).length = n + 1 := by simp; omega
    have HOL := hid hol
    clear hout hol
    by_cases hroom : n + 1 ≤ cap
    · obtain ⟨R1, hR1⟩ : ∃ R1 : Array Value, R1 = (cur.toList.take (i * 2 + 2) ++ D ++ cur.toList.drop (i * 2 + 2 + D.length)).toArray := ⟨_, rfl⟩
      obtain ⟨R2, hR2⟩ : ∃ R2 : Array Value, R2 = (R1.toList.take (i * 2) ++ ([.int .i64 r, .string t] : List Value) ++ R1.toList.drop (i * 2 + 2)).toArray := ⟨_, rfl⟩
      have hfin : R2.toList.take (n * 2 + 2) = X.take (i * 2) ++ ([.int .i64 r, .string t] ++ D) := by
        rw [hR2, hR1, hD]
        exact shift_list cur.toList X (i * 2) (n * 2) hXl (by omega) hct 2 ([.int .i64 r, .string t] : List Value) rfl (by omega) (by omega)
      have hs1 : R1.size = cap * 2 := by rw [hR1]; simp [hDl, hcs]; omega
      have hs2 : R2.size = cap * 2 := by rw [hR2]; simp [hs1]; omega
      have hov : ∀ lb cb, (callFunc 172 #[.slice (some ⟨vb, 0, none⟩) 1 1, .slice (some ⟨g, (i + 1) * 2, none⟩) lb cb]).run Tryz.prog w = .ok (.value (.bool false)) w := fun lb cb => by
        rw [run_callFunc_extern Tryz.func172 (by kernel_rfl) (by kernel_rfl) (by kernel_rfl) (e := Extern.SlicesOverlaps.overlaps #[23, 23] #[4]) (by kernel_rfl),
          Lib.run_overlaps_apart w 23 4 60 Tryz.underlying23 2 hzz ⟨vb, 0, none⟩ ⟨g, (i + 1) * 2, none⟩ 1 1 lb cb (Ne.symm hgv) 60 60 2 (cap * 2) (by simp [World.shape?, hvb]) (by simp [World.shape?, hgh, hcs]) (by omega) (frozen_of_row _ _ _ _ _ hvb) (frozen_of_row _ _ _ _ _ hvb)]
        rfl
      have hcp1 : ∀ ty dc sc, (Builtin.copy_ #[23, 23] ty #[.slice (some ⟨g, (i + 1) * 2, none⟩) (n - i) dc, .slice (some ⟨g, i * 2, none⟩) (n + 1 - i) sc]).run Tryz.prog w.drew = .ok (goInt ((n - i : Nat) : Int)) (w.drew.setRow g R1) := fun ty dc sc => by
        have := run_copy_rowK (P := Tryz.prog) w.drew 23 23 ty 60 g ((i + 1) * 2) (n - i) dc ⟨g, i * 2, none⟩ (n + 1 - i) sc cur 60 D 2 (n - i) Tryz.underlying23 hsz hgh (by simp only [Nat.min_def]; split <;> omega) hDl
          (fun j v hj => by rw [Addr.add_lit]; simp only [World.cell?, World.drew, hgh]; exact hDa j v hj) (by omega) h1D
        rw [show (i + 1) * 2 = i * 2 + 2 by omega] at this ⊢
        rw [← hR1] at this
        exact this
      have hcp2 : ∀ (W : World), W.heap[g]? = some (.cells R1 60 (0, 0)) → W.heap[vb]? = some (.cells #[.int .i64 r, .string t] 60 (0, 0)) → ∀ ty dc, (Builtin.copy_ #[23, 23] ty #[.slice (some ⟨g, i * 2, none⟩) (n + 1 - i) dc, .slice (some ⟨vb, 0, none⟩) 1 1]).run Tryz.prog W = .ok (goInt ((1 : Nat) : Int)) (W.setRow g R2) := fun W h1 h2 ty dc => by
        have := run_copy_rowK (P := Tryz.prog) W 23 23 ty 60 g (i * 2) (n + 1 - i) dc ⟨vb, 0, none⟩ 1 1 R1 60 [.int .i64 r, .string t] 2 1 Tryz.underlying23 hsz h1 (by simp only [Nat.min_def]; split <;> omega) rfl
          (fun j v hj => by rw [Addr.add_lit, Nat.zero_add]; simp only [World.cell?, h2]; simpa using hj) (by simp; omega) h1E
        rw [show i * 2 + ([.int .i64 r, .string t] : List Value).length = i * 2 + 2 from rfl, ← hR2] at this
        exact this
      have hci : ¬ (cap = i) := by omega
      have hci2 : ¬ (cap = i + 1) := by omega
      have hb1 : (i : Int) ≤ (n : Int) + 1 := by omega
      have hne2 : ¬ ((i : Int) = (n : Int)) := by omega
      have hw1 : IntKind.i64.wrap ((i : Int) + 1) = (i : Int) + 1 := by rw [IntKind.wrap_i64]; omega
      have hb2 : (0 : Int) ≤ (i : Int) + 1 := by omega
      have htn : ((i : Int) + 1).toNat = i + 1 := by omega
      have hb3 : (i : Int) + 1 ≤ (n : Int) + 1 := by omega
      have HF := hid (And.intro hfin (And.intro hs1 hs2))
      have HC := hid (And.intro hn (And.intro hnc hcm))
      clear hfin hs1 hs2 hn hcm hDa hXa hct hX hD hR1 hR2 h1X h1D h1E hcl hXl hDl hcs hsz
      go_enter Tryz.func150, Tryz.ntmps150
      go_wp2_with (simp only [hov])
      have hgd : w.drew.heap[g]? = some (.cells cur 60 (0, 0)) := hgh
      have hW1 : (w.drew.setRow g R1).heap[g]? = some (.cells R1 60 (0, 0)) := setRow_heap _ g cur R1 _ _ hgd
      have hW1v : (w.drew.setRow g R1).heap[vb]? = some (.cells #[.int .i64 r, .string t] 60 (0, 0)) := (setRow_other _ _ _ _ (Ne.symm hgv)).trans hvb
      go_region_law (refine step_copy_runI rfl _ _ 23 23 rfl _ _ (by simp [Act.eval, Act.put]) (by simp [Act.eval, Act.put]) (hcp1 _ _ _) ?_)
      have hcp3 := hcp2 _ hW1 hW1v
      clear hcp1 hcp2 hW1v
      go_wp2_with (simp only [hcp3])
      go_ret
      refine ⟨_, rfl, ⟨by rw [HOL.out, HOUT.out, ← HF.out.1]; simp [HF.out.2.2]; omega, .inr ⟨g, cap, R2, by rw [HOL.out]; rfl, hbg, setRow_heap _ g R1 R2 _ _ hW1, by rw [HOL.out]; omega, HC.out.2.2, HF.out.2.2, by rw [HOL.out, HOUT.out, ← HF.out.1, show (n + 1) * 2 = n * 2 + 2 by omega]⟩⟩, ?_⟩
      exact (show w.grownBy w.drew (some g) from ⟨rfl, rfl, rfl, Nat.le_refl _, fun _ _ _ => rfl⟩).trans ((grownBy_setRow _ _ _).trans (grownBy_setRow _ _ _))
    · have hcn : cap = n := by omega
      subst hcn
      obtain ⟨G, hG⟩ : ∃ G, G = grownCap w (cap + 1) cap 60 := ⟨_, rfl⟩
      obtain ⟨ROW, hROW⟩ : ∃ ROW : Array Value, ROW = (X.take (i * 2)).toArray ++ Builtin.zeroCells (Value.agg #[.int .i64 0, .string ByteArray.empty]).cells (cap + 1 - i) ++ Builtin.zeroCells (Value.agg #[.int .i64 0, .string ByteArray.empty]).cells (G - (cap + 1)) := ⟨_, rfl⟩
      have hGn : cap + 1 ≤ G := by rw [hG]; exact grownCap_ge w _ _ _
      have hGm : G ≤ maxLen := by rw [hG]; exact grownCap_le_maxLen w (cap + 1) cap 60 (by unfold maxLen; omega)
      have hold : (Builtin.firstCells i0.size i (.slice (some ⟨g, 0, none⟩) i cap)).run Tryz.prog w.drew = .ok (X.take (i * 2)).toArray w.drew := by
        rw [hz1]
        exact run_firstCells_some w.drew 2 i ⟨g, 0, none⟩ i cap (X.take (i * 2)) (by rw [List.length_take, hXl]; omega) (fun j v hj => by
          rw [Addr.add_lit, Nat.zero_add]
          rw [List.getElem?_take] at hj
          split at hj
          · simp only [World.cell?, World.drew, hgh]; exact hXa j v hj
          · cases hj)
      have hrz : ∀ ty, (Builtin.append_ #[23, 3] ty #[.slice (some ⟨g, 0, none⟩) i cap, .int .i64 ((cap : Int) + 1 - (i : Int))]).run Tryz.prog w = .ok (.slice (some ⟨w.heap.size, 0, none⟩) (cap + 1) G) (w.drew.alloc (.cells ROW 60)) := fun ty => by
        have h := Lib.run_append_grow_zeros (P := Tryz.prog) w 23 3 ty 60 i0 _ .i64 .i64 Tryz.underlying23 Tryz.underlying3 hi0 hz0 (some ⟨g, 0, none⟩) i cap (X.take (i * 2)) hold (cap + 1 - i) (by omega) (by rw [hz1]; decide) (by omega) (by omega) (by rw [hz2]; omega) (by rw [hz2, show i + (cap + 1 - i) = cap + 1 by omega]; exact growslice_fits (by omega) (by omega))
        rw [show i + (cap + 1 - i) = cap + 1 by omega, ← hG, ← hROW] at h
        rw [show (cap : Int) + 1 - (i : Int) = ((cap + 1 - i : Nat) : Int) by omega]
        exact h
      have hRs : ROW.size = G * 2 := by
        rw [hROW]
        simp [Builtin.zeroCells, Value.cells, hXl]
        omega
      have hRt : ROW.toList.take (i * 2) = X.take (i * 2) := by
        rw [hROW]
        simp only [Array.toList_append]
        rw [List.append_assoc, List.take_append_of_le_length (by simp [hXl]; omega), List.take_of_length_le (by simp; omega)]
      obtain ⟨R1, hR1⟩ : ∃ R1 : Array Value, R1 = (ROW.toList.take (i * 2) ++ ([.int .i64 r, .string t] : List Value) ++ ROW.toList.drop (i * 2 + 2)).toArray := ⟨_, rfl⟩
      obtain ⟨R2, hR2⟩ : ∃ R2 : Array Value, R2 = (R1.toList.take (i * 2 + 2) ++ D ++ R1.toList.drop (i * 2 + 2 + D.length)).toArray := ⟨_, rfl⟩
      have hs1 : R1.size = G * 2 := by rw [hR1]; simp [hRs]; omega
      have hs2 : R2.size = G * 2 := by rw [hR2]; simp [hs1, hDl]; omega
      have hfin : R2.toList.take (cap * 2 + 2) = X.take (i * 2) ++ ([.int .i64 r, .string t] ++ D) := by
        have e1 : R1.toList.take (i * 2 + 2) = X.take (i * 2) ++ [.int .i64 r, .string t] := by
          rw [hR1, hRt]
          simp only [List.append_assoc]
          rw [← List.append_assoc, List.take_append_of_le_length (by simp [hXl]; omega), List.take_of_length_le (by simp; omega)]
        rw [hR2, e1]
        simp only
        rw [List.take_append_of_le_length (by simp [hXl, hDl]; omega), List.take_of_length_le (by simp [hXl, hDl]; omega), List.append_assoc]
      obtain ⟨W1, hW1⟩ : ∃ W1, W1 = w.drew.alloc (.cells ROW 60) := ⟨_, rfl⟩
      have k1 : W1.heap[w.heap.size]? = some (.cells ROW 60 (0, 0)) := by rw [hW1]; exact heap_alloc_new w.drew _
      have kold : ∀ q, q < w.heap.size → W1.heap[q]? = w.heap[q]? := fun q hq => by rw [hW1]; exact ((Below.refl w.heap.size w).drew.alloc (Nat.le_refl _) _).block q hq
      have k1g : w.grownBy W1 (some g) := by rw [hW1]; exact (show w.grownBy w.drew (some g) from ⟨rfl, rfl, rfl, Nat.le_refl _, fun _ _ _ => rfl⟩).trans (World.grownBy_alloc _ _ _)
      have hcpA : ∀ ty dc, (Builtin.copy_ #[23, 23] ty #[.slice (some ⟨w.heap.size, i * 2, none⟩) (cap + 1 - i) dc, .slice (some ⟨vb, 0, none⟩) 1 1]).run Tryz.prog W1 = .ok (goInt ((1 : Nat) : Int)) (W1.setRow w.heap.size R1) := fun ty dc => by
        have := run_copy_rowK (P := Tryz.prog) W1 23 23 ty 60 w.heap.size (i * 2) (cap + 1 - i) dc ⟨vb, 0, none⟩ 1 1 ROW 60 [.int .i64 r, .string t] 2 1 Tryz.underlying23 hsz k1 (by simp only [Nat.min_def]; split <;> omega) rfl
          (fun j v hj => by rw [Addr.add_lit, Nat.zero_add]; simp only [World.cell?, kold vb hvw, hvb]; simpa using hj) (by simp; omega) h1E
        rw [show i * 2 + ([.int .i64 r, .string t] : List Value).length = i * 2 + 2 from rfl, ← hR1] at this
        exact this
      have hgn : w.heap.size ≠ g := by omega
      obtain ⟨W2, hW2⟩ : ∃ W2, W2 = W1.setRow w.heap.size R1 := ⟨_, rfl⟩
      have k2 : W2.heap[w.heap.size]? = some (.cells R1 60 (0, 0)) := by rw [hW2]; exact setRow_heap _ _ ROW R1 _ _ k1
      have k2g : W2.heap[g]? = some (.cells cur 60 (0, 0)) := by rw [hW2]; exact (setRow_other _ _ _ _ (Ne.symm hgn)).trans ((kold g hgw).trans hgh)
      have k2w : w.grownBy W2 (some g) := by rw [hW2]; exact ⟨k1g.os, k1g.tape, k1g.output, by have := k1g.size; simpa [World.setRow] using this, fun q hq hqn => (setRow_other _ _ _ _ (by omega)).trans (k1g.block q hq hqn)⟩
      have hcpB : ∀ ty dc sc, (Builtin.copy_ #[23, 23] ty #[.slice (some ⟨w.heap.size, (i + 1) * 2, none⟩) (cap - i) dc, .slice (some ⟨g, i * 2, none⟩) (cap - i) sc]).run Tryz.prog W2.drew = .ok (goInt ((cap - i : Nat) : Int)) (W2.drew.setRow w.heap.size R2) := fun ty dc sc => by
        have := run_copy_rowK (P := Tryz.prog) W2.drew 23 23 ty 60 w.heap.size ((i + 1) * 2) (cap - i) dc ⟨g, i * 2, none⟩ (cap - i) sc R1 60 D 2 (cap - i) Tryz.underlying23 hsz k2 (by simp only [Nat.min_def]; split <;> omega) hDl
          (fun j v hj => by rw [Addr.add_lit]; have k2g' : W2.drew.heap[g]? = some (.cells cur 60 (0, 0)) := k2g
                            simp only [World.cell?, k2g']; exact hDa j v hj) (by omega) h1D
        rw [show (i + 1) * 2 = i * 2 + 2 by omega] at this ⊢
        rw [← hR2] at this
        exact this
      rw [← hW1] at hrz
      rw [← hW2] at hcpA
      have k3 : (W2.drew.setRow w.heap.size R2).heap[w.heap.size]? = some (.cells R2 60 (0, 0)) := setRow_heap _ _ R1 R2 _ _ k2
      have k3w : w.grownBy (W2.drew.setRow w.heap.size R2) (some g) := ⟨k2w.os, k2w.tape, k2w.output, by have h5 := k2w.size; simp only [World.setRow, Array.size_modify]; exact h5, fun q hq hqn => (setRow_other _ _ _ _ (by omega)).trans (k2w.block q hq hqn)⟩
      have hGi : ¬ (G = i) := by omega
      have hGi1 : ¬ (G = i + 1) := by omega
      have hci : ¬ (cap = i) := by omega
      have hne2 : ¬ ((i : Int) = (cap : Int)) := by omega
      have hw1 : IntKind.i64.wrap ((i : Int) + 1) = (i : Int) + 1 := by rw [IntKind.wrap_i64]; omega
      have hb2 : (0 : Int) ≤ (i : Int) + 1 := by omega
      have htn : ((i : Int) + 1).toNat = i + 1 := by omega
      have hb3 : (i : Int) + 1 ≤ (cap : Int) + 1 := by omega
      have hb1 : (i : Int) ≤ (cap : Int) + 1 := by omega
      have hb4 : (i : Int) ≤ (cap : Int) := by omega
      have HF := hid (And.intro hfin (And.intro hs2 (And.intro hGn hGm)))
      have HK := hid (And.intro k3 k3w)
      clear hfin hs1 hs2 hn hcm hDa hXa hct hX hD hR1 hR2 h1X h1D h1E hcl hXl hDl hcs hsz hG hROW hRs hRt hGm hW1 hW2 k1 kold k1g k2 k2g k2w k3 k3w hold
      go_enter Tryz.func150, Tryz.ntmps150
      go_wp2_with (first | (at_builtin; refine Lib.wpList_append_run _ rfl _ _ _ _ rfl _ _ rfl rfl _ _ (hrz _) ?_) | (simp only [hcpA]))
      go_region_law (refine step_copy_runI rfl _ _ 23 23 rfl _ _ (by simp [Act.eval, Act.put]) (by simp [Act.eval, Act.put]) (hcpB _ _ _) ?_)
      go_wp2
      go_ret
      refine ⟨_, rfl, ⟨by rw [HOL.out, HOUT.out, ← HF.out.1]; simp [HF.out.2.1]; omega, .inr ⟨w.heap.size, G, R2, by rw [HOL.out]; rfl, hB, HK.out.1, by rw [HOL.out]; exact HF.out.2.2.1, HF.out.2.2.2, HF.out.2.1, by rw [HOL.out, HOUT.out, ← HF.out.1, show (cap + 1) * 2 = cap * 2 + 2 by omega]⟩⟩, HK.out.2⟩

end Go.Proofs.YtachfmlfmpaddaaGreatDoor
