/- Plain facts on caches of prints. No program in sight. -/
import Derived.Test.YtkfkcbceoekgjaaDoorA
namespace Go.Proofs.YtkfkcbceoekgjaaDoor
open Go.RowKit

def hasI (l : List Int) (n : Int) : Bool := decide (n ∈ l)
theorem hasI_iff {l : List Int} {n : Int} : hasI l n = true ↔ n ∈ l := by simp [hasI]
theorem hasI_no {l : List Int} {n : Int} : hasI l n = false ↔ n ∉ l := by simp [hasI]
theorem hasI_get {l : List Int} {n : Int} {k : Nat} (h : l[k]? = some n) : hasI l n = true := hasI_iff.2 (List.mem_of_getElem? h)
theorem hasI_succ {l : List Int} {n x : Int} {k : Nat} (h : l[k]? = some x) (hx : x ≠ n) (hn : hasI (l.take k) n = false) : hasI (l.take (k + 1)) n = false := by
  rw [hasI_no] at hn ⊢
  rw [take_snoc' h, List.mem_append, List.mem_singleton]
  rintro (h' | h')
  · exact hn h'
  · exact hx h'.symm

/-- All different. -/
def nodupI : List Int → Bool
  | [] => true
  | x :: r => !hasI r x && nodupI r
theorem nodupI_iff : ∀ l : List Int, nodupI l = true ↔ l.Nodup
  | [] => by simp [nodupI]
  | x :: r => by simp [nodupI, nodupI_iff r, hasI]
theorem nodupI_succ {l : List Int} {x : Int} {k : Nat} (h : l[k]? = some x) : nodupI (l.take (k + 1)) = (nodupI (l.take k) && !hasI (l.take k) x) := by
  rw [Bool.eq_iff_iff, Bool.and_eq_true, nodupI_iff, nodupI_iff, take_snoc' h]
  simp [List.nodup_append, hasI]
  intro _
  constructor
  · intro h1 h2; exact h1 x h2 rfl
  · intro h1 a ha he; exact h1 (he ▸ ha)
theorem nodupI_no {l : List Int} {x : Int} {k : Nat} (h : l[k]? = some x) (hh : hasI (l.take k) x = true) : nodupI l = false := by
  cases hn : nodupI l
  · rfl
  · exfalso
    have h1 := (nodupI_iff l).1 hn
    rw [← List.take_append_drop k l] at h1
    have h2 := (List.nodup_append.1 h1).2.2 x (hasI_iff.1 hh) x (by
      have := List.drop_eq_getElem_cons (l := l) (i := k) (List.getElem?_eq_some_iff.1 h).1
      rw [this, (List.getElem?_eq_some_iff.1 h).2]
      simp)
    exact h2 rfl

/-- A valid cache: so many prints at most, all different. -/
def keepOk (l : List Int) : Bool := l.all pv && nodupI l
def cacheOk (m : Int) (l : List Int) : Bool := inB m 1 8 && decide ((l.length : Int) ≤ m) && keepOk l
theorem keepOk_succ {l : List Int} {x : Int} {k : Nat} (h : l[k]? = some x) (hk : keepOk (l.take k) = true) (hp : pv x = true) (hh : hasI (l.take k) x = false) : keepOk (l.take (k + 1)) = true := by
  unfold keepOk at *
  rw [all_succ pv h, nodupI_succ h, hh, hp]
  simpa using hk
theorem keepOk_no1 {l : List Int} {x : Int} {k : Nat} (h : l[k]? = some x) (hp : pv x = false) : keepOk l = false := by simp [keepOk, all_no pv h hp]
theorem keepOk_no2 {l : List Int} {x : Int} {k : Nat} (h : l[k]? = some x) (hh : hasI (l.take k) x = true) : keepOk l = false := by simp [keepOk, nodupI_no h hh]
theorem cacheOk_no {m : Int} {l : List Int} (h : keepOk l = false) : cacheOk m l = false := by simp [cacheOk, h]
theorem cacheOk_in {m : Int} {l : List Int} (h : cacheOk m l = true) : 1 ≤ m ∧ m ≤ 8 ∧ (l.length : Int) ≤ m ∧ l.all pv = true ∧ l.Nodup := by
  simp only [cacheOk, keepOk, Bool.and_eq_true, decide_eq_true_eq] at h
  have := inB_yes h.1.1
  exact ⟨this.1, this.2, h.1.2, h.2.1, (nodupI_iff l).1 h.2.2⟩
theorem cacheOk_of {m : Int} {l : List Int} (h1 : 1 ≤ m) (h2 : m ≤ 8) (h3 : (l.length : Int) ≤ m) (h4 : l.all pv = true) (h5 : l.Nodup) : cacheOk m l = true := by
  simp only [cacheOk, keepOk, Bool.and_eq_true, decide_eq_true_eq]
  exact ⟨⟨inB_iff.2 ⟨h1, h2⟩, h3⟩, h4, (nodupI_iff l).2 h5⟩

def others (p : Int) (l : List Int) : List Int := l.filter (· != p)
/-- What is kept behind a use. -/
def usedKeep (m : Int) (l : List Int) (p : Int) : List Int := (p :: others p l).take m.toNat
def useOk (m : Int) (l : List Int) (p : Int) : Bool := cacheOk m l && pv p
def useMost (m : Int) (l : List Int) (p : Int) : Int := if useOk m l p then m else 0
def useKeep (m : Int) (l : List Int) (p : Int) : List Int := if useOk m l p then usedKeep m l p else []
def useHit (m : Int) (l : List Int) (p : Int) : Bool := useOk m l p && hasI l p
theorem use_off {m p : Int} {l : List Int} (h : useOk m l p = false) : useMost m l p = 0 ∧ useKeep m l p = [] ∧ useHit m l p = false := by simp [useMost, useKeep, useHit, h]
theorem use_on {m p : Int} {l : List Int} (h : useOk m l p = true) : useMost m l p = m ∧ useKeep m l p = usedKeep m l p ∧ useHit m l p = hasI l p := by simp [useMost, useKeep, useHit, h]
theorem use_off1 {m p : Int} {l : List Int} (h : cacheOk m l = false) : useOk m l p = false := by simp [useOk, h]
theorem use_off2 {m p : Int} {l : List Int} (h : pv p = false) : useOk m l p = false := by simp [useOk, h]
theorem use_on_in {m p : Int} {l : List Int} (h : useOk m l p = true) : cacheOk m l = true ∧ pv p = true := by simpa [useOk] using h

theorem others_succ_eq {p x : Int} {l : List Int} {k : Nat} (h : l[k]? = some x) (hx : x = p) : others p (l.take (k + 1)) = others p (l.take k) := by
  unfold others; rw [filter_succ _ h]; simp [hx]
theorem others_succ_ne {p x : Int} {l : List Int} {k : Nat} (h : l[k]? = some x) (hx : x ≠ p) : others p (l.take (k + 1)) = others p (l.take k) ++ [x] := by
  unfold others; rw [filter_succ _ h]; simp [hx]
theorem used_zero {m p : Int} (h : 1 ≤ m) (l : List Int) : usedKeep m (l.take 0) p = [p] := by
  unfold usedKeep others
  obtain ⟨n, hn⟩ : ∃ n, m.toNat = n + 1 := ⟨m.toNat - 1, by omega⟩
  rw [hn]; simp
theorem used_succ_eq {m p x : Int} {l : List Int} {k : Nat} (h : l[k]? = some x) (hx : x = p) : usedKeep m (l.take (k + 1)) p = usedKeep m (l.take k) p := by
  unfold usedKeep; rw [others_succ_eq h hx]
theorem used_succ_lt {m p x : Int} {l : List Int} {k : Nat} (h : l[k]? = some x) (hx : x ≠ p) (hl : ((usedKeep m (l.take k) p).length : Int) < m) : usedKeep m (l.take (k + 1)) p = usedKeep m (l.take k) p ++ [x] := by
  unfold usedKeep at *
  rw [others_succ_ne h hx]
  rw [List.length_take] at hl
  rw [← List.cons_append, List.take_append, List.take_of_length_le (by omega)]
  rw [List.take_of_length_le (show [x].length ≤ _ by simp only [List.length_singleton]; omega)]
theorem used_succ_full {m p x : Int} {l : List Int} {k : Nat} (h : l[k]? = some x) (hx : x ≠ p) (hl : ¬ ((usedKeep m (l.take k) p).length : Int) < m) : usedKeep m (l.take (k + 1)) p = usedKeep m (l.take k) p := by
  unfold usedKeep at *
  rw [others_succ_ne h hx]
  rw [List.length_take] at hl
  rw [← List.cons_append, List.take_append, show m.toNat - (p :: others p (l.take k)).length = 0 by omega]
  simp
theorem used_len {m p : Int} {l : List Int} : (usedKeep m l p).length ≤ m.toNat := by unfold usedKeep; rw [List.length_take]; omega
theorem used_len' {m p : Int} {l : List Int} : (usedKeep m l p).length ≤ l.length + 1 := by
  unfold usedKeep others
  have := List.length_filter_le (· != p) l
  rw [List.length_take]; simp; omega

theorem used_ok {m p : Int} {l : List Int} (h : useOk m l p = true) : cacheOk m (usedKeep m l p) = true := by
  obtain ⟨h1, h2⟩ := use_on_in h
  obtain ⟨c1, c2, c3, c4, c5⟩ := cacheOk_in h1
  refine cacheOk_of c1 c2 (by have := used_len (m := m) (p := p) (l := l); omega) ?_ ?_
  · rw [List.all_eq_true] at c4 ⊢
    intro x hx
    rcases List.mem_cons.1 (List.mem_of_mem_take hx) with rfl | hx
    · exact h2
    · exact c4 x (List.mem_filter.1 hx).1
  · refine List.Nodup.sublist (List.take_sublist _ _) (List.nodup_cons.2 ⟨?_, c5.sublist List.filter_sublist⟩)
    intro hp
    have := (List.mem_filter.1 hp).2
    simp at this
theorem used_first {m p : Int} {l : List Int} (h : 1 ≤ m) : ∃ r, usedKeep m l p = p :: r := by
  unfold usedKeep
  obtain ⟨n, hn⟩ : ∃ n, m.toNat = n + 1 := ⟨m.toNat - 1, by omega⟩
  rw [hn]; exact ⟨_, rfl⟩
theorem others_none {p : Int} {l : List Int} (h : p ∉ l) : others p l = l := by
  unfold others
  rw [List.filter_eq_self]
  intro x hx
  simp only [bne_iff_ne, ne_eq]
  rintro rfl
  exact h hx
theorem used_again {m p : Int} {l : List Int} (h : 1 ≤ m) : usedKeep m (usedKeep m l p) p = usedKeep m l p := by
  obtain ⟨n, hn⟩ : ∃ n, m.toNat = n + 1 := ⟨m.toNat - 1, by omega⟩
  unfold usedKeep
  rw [hn]
  have h1 : others p (p :: (others p l).take n) = (others p l).take n := by
    rw [show others p (p :: (others p l).take n) = others p ((others p l).take n) by simp [others]]
    refine others_none fun hp => ?_
    have := (List.mem_filter.1 (List.mem_of_mem_take hp)).2
    simp at this
  rw [List.take_succ_cons, List.take_succ_cons, h1, List.take_take, Nat.min_self]
theorem use_again {m p : Int} {l : List Int} (h : useOk m l p = true) : useOk m (usedKeep m l p) p = true ∧ useKeep m (usedKeep m l p) p = usedKeep m l p ∧ useHit m (usedKeep m l p) p = true := by
  have h1 : useOk m (usedKeep m l p) p = true := by
    have := (use_on_in h).2
    simp [useOk, used_ok h, this]
  have hm := (cacheOk_in (use_on_in h).1).1
  obtain ⟨r, hr⟩ := used_first (m := m) (p := p) (l := l) hm
  refine ⟨h1, ?_, ?_⟩
  · rw [(use_on h1).2.1]; exact used_again hm
  · rw [(use_on h1).2.2, hr]; simp [hasI]

/-! ### Many uses -/
def runStep (m : Int) (s : List Int × Nat) (p : Int) : List Int × Nat := (usedKeep m s.1 p, s.2 + if hasI s.1 p then 1 else 0)
def runs (m : Int) (ps : List Int) : List Int × Nat := ps.foldl (runStep m) ([], 0)
def runOk (m : Int) (ps : List Int) : Bool := inB m 1 8 && decide (ps.length ≤ 40) && ps.all pv
def runCache (m : Int) (ps : List Int) : Int := if runOk m ps then (runs m ps).2 else -1
theorem run_off {m : Int} {ps : List Int} (h : runOk m ps = false) : runCache m ps = -1 := by simp [runCache, h]
theorem run_on {m : Int} {ps : List Int} (h : runOk m ps = true) : runCache m ps = (runs m ps).2 := by simp [runCache, h]
theorem runs_succ {m p : Int} {ps : List Int} {k : Nat} (h : ps[k]? = some p) : runs m (ps.take (k + 1)) = runStep m (runs m (ps.take k)) p := foldl_succ _ _ h
theorem runs_snoc {m p : Int} {ps : List Int} : runs m (ps ++ [p]) = runStep m (runs m ps) p := by unfold runs; rw [List.foldl_append]; rfl
theorem list_rev {α : Type} {P : List α → Prop} (h0 : P []) (h1 : ∀ l x, P l → P (l ++ [x])) (l : List α) : P l := by
  have : ∀ l : List α, P l.reverse := by
    intro l
    induction l with
    | nil => exact h0
    | cons x r ih => rw [List.reverse_cons]; exact h1 _ _ ih
  simpa using this l.reverse
theorem runs_ok {m : Int} (hm : 1 ≤ m) (hm' : m ≤ 8) (ps : List Int) : ps.all pv = true → cacheOk m (runs m ps).1 = true ∧ (runs m ps).2 ≤ ps.length := by
  refine list_rev (P := fun ps => ps.all pv = true → cacheOk m (runs m ps).1 = true ∧ (runs m ps).2 ≤ ps.length) ?_ ?_ ps
  · intro _
    exact ⟨cacheOk_of hm hm' (by simp [runs]; omega) rfl (by simp [runs]), Nat.zero_le _⟩
  · intro l x ih h
    rw [List.all_append] at h
    simp only [Bool.and_eq_true, List.all_cons, List.all_nil, and_true] at h
    obtain ⟨i1, i2⟩ := ih h.1
    rw [runs_snoc]
    refine ⟨used_ok (by simp [useOk, i1, h.2]), ?_⟩
    simp only [runStep, List.length_append, List.length_singleton]
    split <;> omega

/-- All prints that were used, the last one first. -/
def recent (ps : List Int) : List Int := ps.foldl (fun l p => p :: others p l) []
theorem recent_snoc (ps : List Int) (p : Int) : recent (ps ++ [p]) = p :: others p (recent ps) := by unfold recent; rw [List.foldl_append]; rfl
theorem recent_nodup (ps : List Int) : (recent ps).Nodup := by
  refine list_rev (P := fun ps => (recent ps).Nodup) (by simp [recent]) ?_ ps
  intro l x ih
  rw [recent_snoc]
  refine List.nodup_cons.2 ⟨fun hp => ?_, ih.sublist List.filter_sublist⟩
  have := (List.mem_filter.1 hp).2
  simp at this
theorem others_take (p : Int) : ∀ (l : List Int) (n : Nat), l.Nodup → (others p (l.take (n + 1))).take n = (others p l).take n
  | [], n, _ => by simp [others]
  | x :: t, n, h => by
    have ht := (List.nodup_cons.1 h).2
    by_cases hx : x = p
    · subst hx
      have hp := (List.nodup_cons.1 h).1
      rw [List.take_succ_cons]
      rw [show others x (x :: t.take n) = others x (t.take n) by simp [others], show others x (x :: t) = others x t by simp [others]]
      rw [others_none hp, others_none (fun hh => hp (List.mem_of_mem_take hh)), List.take_take, Nat.min_self]
    · rw [List.take_succ_cons, show others p (x :: t.take n) = x :: others p (t.take n) by simp [others, hx], show others p (x :: t) = x :: others p t by simp [others, hx]]
      cases n with
      | zero => simp
      | succ n => rw [List.take_succ_cons, List.take_succ_cons, others_take p t n ht]
theorem runs_keep {m : Int} (hm : 1 ≤ m) (ps : List Int) : (runs m ps).1 = (recent ps).take m.toNat := by
  refine list_rev (P := fun ps => (runs m ps).1 = (recent ps).take m.toNat) (by simp [runs, recent]) ?_ ps
  intro l x ih
  rw [runs_snoc, recent_snoc]
  obtain ⟨n, hn⟩ : ∃ n, m.toNat = n + 1 := ⟨m.toNat - 1, by omega⟩
  simp only [runStep, usedKeep]
  rw [ih, hn, List.take_succ_cons, List.take_succ_cons, others_take x _ n (recent_nodup l)]
theorem runs_more {m : Int} (hm : 1 ≤ m) (ps : List Int) : (runs m ps).2 ≤ (runs (m + 1) ps).2 := by
  refine list_rev (P := fun ps => (runs m ps).2 ≤ (runs (m + 1) ps).2) (by simp [runs]) ?_ ps
  intro l x ih
  rw [runs_snoc, runs_snoc]
  simp only [runStep]
  rw [runs_keep hm, runs_keep (show 1 ≤ m + 1 by omega)]
  have : hasI ((recent l).take m.toNat) x = true → hasI ((recent l).take (m + 1).toNat) x = true := by
    rw [hasI_iff, hasI_iff]
    intro h
    have : (recent l).take m.toNat = ((recent l).take (m + 1).toNat).take m.toNat := by rw [List.take_take, Nat.min_eq_left (by omega)]
    rw [this] at h
    exact List.mem_of_mem_take h
  by_cases h : hasI ((recent l).take m.toNat) x = true
  · rw [if_pos h, if_pos (this h)]; omega
  · rw [if_neg h]; omega
theorem run_more {m : Int} {ps : List Int} (h : ¬ runCache m ps < 0) (hm : m ≠ 8) : runCache m ps ≤ runCache (m + 1) ps := by
  cases hk : runOk m ps
  · rw [run_off hk] at h; omega
  · have hk' : runOk (m + 1) ps = true := by
      simp only [runOk, Bool.and_eq_true] at hk ⊢
      have := inB_yes hk.1.1
      exact ⟨⟨inB_iff.2 ⟨by omega, by omega⟩, hk.1.2⟩, hk.2⟩
    have h1 : 1 ≤ m := by
      simp only [runOk, Bool.and_eq_true] at hk
      exact (inB_yes hk.1.1).1
    rw [run_on hk, run_on hk']
    have := runs_more h1 ps
    omega
theorem run_le {m : Int} {ps : List Int} : runCache m ps ≤ ps.length := by
  cases hk : runOk m ps
  · rw [run_off hk]; omega
  · rw [run_on hk]
    simp only [runOk, Bool.and_eq_true] at hk
    have := (runs_ok (inB_yes hk.1.1).1 (inB_yes hk.1.1).2 ps hk.2).2
    omega
theorem run_neg {m : Int} {ps : List Int} (h : runCache m ps < 0) : runCache m ps = -1 := by
  cases hk : runOk m ps
  · exact run_off hk
  · rw [run_on hk] at h; omega

end Go.Proofs.YtkfkcbceoekgjaaDoor
