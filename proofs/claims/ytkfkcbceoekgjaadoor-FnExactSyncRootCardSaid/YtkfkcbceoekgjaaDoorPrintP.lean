/- Plain facts on prints and seals. No program in sight. -/
import Derived.Test.YtkfkcbceoekgjaaDoorText
namespace Go.Proofs.YtkfkcbceoekgjaaDoor
open Go.RowKit

def prStep (n : Int) (c : UInt8) : Int := (n * 257 + c.toNat) % 16777213
def prFold (l : List UInt8) : Int := l.foldl prStep 1
def printOf (l : List UInt8) : Int := if textOk l then prFold l else -1
def pair (a b : Int) : Int := if pv a && pv b then (a * 7919 + b * 104729 + 3) % 16777213 else -1
def plOk (l : List Int) : Bool := decide (l.length ≤ 20) && l.all pv
def plist (l : List Int) : Int := if plOk l then l.foldl pair 5 else -1

theorem prStep_in (n : Int) (c : UInt8) : 0 ≤ prStep n c ∧ prStep n c ≤ 16777212 := by
  unfold prStep
  have h1 := Int.emod_nonneg (n * 257 + c.toNat) (show (16777213 : Int) ≠ 0 by decide)
  have h2 := Int.emod_lt_of_pos (n * 257 + c.toNat) (show (0 : Int) < 16777213 by decide)
  omega
theorem prFold_in (l : List UInt8) : 0 ≤ prFold l ∧ prFold l ≤ 16777212 := by
  unfold prFold
  have : ∀ (l : List UInt8) (n : Int), 0 ≤ n ∧ n ≤ 16777212 → 0 ≤ l.foldl prStep n ∧ l.foldl prStep n ≤ 16777212 := by
    intro l
    induction l with
    | nil => intro n h; exact h
    | cons c r ih => intro n _; exact ih _ (prStep_in n c)
  exact this l 1 (by omega)
theorem printOf_in {l : List UInt8} (h : textOk l = true) : pv (printOf l) = true := by
  unfold printOf
  rw [if_pos h]
  exact inB_iff.2 (prFold_in l)
theorem pair_in {a b : Int} (h : pv a = true) (h' : pv b = true) : pv (pair a b) = true := by
  unfold pair
  rw [h, h']
  rw [if_pos (by rfl)]
  have h1 := Int.emod_nonneg (a * 7919 + b * 104729 + 3) (show (16777213 : Int) ≠ 0 by decide)
  have h2 := Int.emod_lt_of_pos (a * 7919 + b * 104729 + 3) (show (0 : Int) < 16777213 by decide)
  exact inB_iff.2 ⟨h1, by omega⟩
theorem pairs_in {l : List Int} : ∀ {n : Int}, pv n = true → l.all pv = true → pv (l.foldl pair n) = true := by
  induction l with
  | nil => intro n h _; exact h
  | cons x r ih =>
    intro n h h'
    rw [List.all_cons, Bool.and_eq_true] at h'
    exact ih (pair_in h h'.1) h'.2
theorem pv_iff {n : Int} : pv n = true ↔ 0 ≤ n ∧ n ≤ 16777212 := inB_iff
/-- 16777213 has no part in common with the two factors. -/
theorem dvd_of_mul1 {x : Int} (h : (16777213 : Int) ∣ x * 104729) : (16777213 : Int) ∣ x := by
  have h2 : (16777213 : Int) ∣ x * 104729 * 243018 := Int.dvd_trans h (Int.dvd_mul_right _ _)
  obtain ⟨k, hk⟩ := h2
  exact ⟨k - 1517 * x, by omega⟩
theorem dvd_of_mul2 {x : Int} (h : (16777213 : Int) ∣ x * 7919) : (16777213 : Int) ∣ x := by
  have h2 : (16777213 : Int) ∣ x * 7919 * 7018930 := Int.dvd_trans h (Int.dvd_mul_right _ _)
  obtain ⟨k, hk⟩ := h2
  exact ⟨k - 3313 * x, by omega⟩
theorem pair_inj2 {a b c : Int} (ha : pv a = true) (hb : pv b = true) (hc : pv c = true) (h : pair a b = pair a c) : b = c := by
  unfold pair at h
  rw [ha, hb, hc] at h
  simp only [Bool.and_self, if_true] at h
  rw [pv_iff] at hb hc
  have h3 := Int.dvd_of_emod_eq_zero (Int.emod_eq_emod_iff_emod_sub_eq_zero.1 h)
  have e : a * 7919 + b * 104729 + 3 - (a * 7919 + c * 104729 + 3) = (b - c) * 104729 := by omega
  rw [e] at h3
  obtain ⟨k, hk⟩ := dvd_of_mul1 h3
  omega
theorem pair_val {a b : Int} (ha : pv a = true) (hb : pv b = true) : pair a b = (a * 7919 + b * 104729 + 3) % 16777213 := by
  unfold pair
  rw [ha, hb]
  rfl
theorem emod_dvd {x y : Int} (h : x % 16777213 = y % 16777213) : (16777213 : Int) ∣ x - y := Int.dvd_of_emod_eq_zero (Int.emod_eq_emod_iff_emod_sub_eq_zero.1 h)
theorem pair_inj1 {a b c : Int} (ha : pv a = true) (hb : pv b = true) (hc : pv c = true) (h : pair b a = pair c a) : b = c := by
  rw [pair_val hb ha, pair_val hc ha] at h
  have h3 := emod_dvd h
  rw [show b * 7919 + a * 104729 + 3 - (c * 7919 + a * 104729 + 3) = (b - c) * 7919 by omega] at h3
  obtain ⟨k, hk⟩ := dvd_of_mul2 h3
  have hb' := pv_iff.1 hb
  have hc' := pv_iff.1 hc
  clear h h3 ha hb hc
  omega
theorem plist_in {l : List Int} (h : plOk l = true) : pv (plist l) = true := by
  unfold plist
  rw [if_pos h]
  simp only [plOk, Bool.and_eq_true] at h
  exact pairs_in (by decide) h.2
theorem plist_off {l : List Int} (h : plOk l = false) : plist l = -1 := by unfold plist; rw [h]; rfl
theorem plist_on {l : List Int} (h : plOk l = true) : plist l = l.foldl pair 5 := by unfold plist; rw [h]; rfl
theorem wordOk_text {l : List UInt8} (h : wordOk l = true) : textOk l = true := by
  simp only [wordOk, Bool.and_eq_true, decide_eq_true_eq] at h
  simp only [textOk, Bool.and_eq_true, decide_eq_true_eq]
  refine ⟨by omega, ?_⟩
  rw [List.all_eq_true]
  intro c hc
  have := List.all_eq_true.1 h.2 c hc
  simp only [wordCh, Bool.or_eq_true, isSm, isDig] at this
  rcases this with h' | h'
  · have := inB_yes h'; exact inB_iff.2 ⟨by omega, by omega⟩
  · have := inB_yes h'; exact inB_iff.2 ⟨by omega, by omega⟩

/-! ### Versions and seals -/
structure Ver where
  root : Int
  before : Int
  note : ByteArray
def vOk (v : Ver) (i : Int) : Bool := pv v.root && inB v.before (-1) (i - 1) && wordOk (bs v.note)
def vsFrom : Int → List Ver → Bool
  | _, [] => true
  | i, v :: r => vOk v i && vsFrom (i + 1) r
def vsOk (l : List Ver) : Bool := decide (l.length ≤ 12) && vsFrom 0 l
theorem vsFrom_succ : ∀ (l : List Ver) (i : Int) (k : Nat) (x : Ver), l[k]? = some x → vsFrom i (l.take (k + 1)) = (vsFrom i (l.take k) && vOk x (i + k))
  | [], i, k, x, h => by simp at h
  | v :: r, i, 0, x, h => by
    simp at h; subst h
    simp [vsFrom]
  | v :: r, i, k + 1, x, h => by
    have := vsFrom_succ r (i + 1) k x (by simpa using h)
    simp only [List.take_succ_cons, vsFrom]
    rw [this, Bool.and_assoc, show i + 1 + (k : Int) = i + ((k + 1 : Nat) : Int) by omega]
theorem vsFrom_get : ∀ (l : List Ver) (i : Int) (k : Nat) (x : Ver), l[k]? = some x → vsFrom i l = true → vOk x (i + k) = true
  | [], i, k, x, h, _ => by simp at h
  | v :: r, i, 0, x, h, h' => by
    simp at h; subst h
    simp only [vsFrom, Bool.and_eq_true] at h'
    simpa using h'.1
  | v :: r, i, k + 1, x, h, h' => by
    simp only [vsFrom, Bool.and_eq_true] at h'
    have := vsFrom_get r (i + 1) k x (by simpa using h) h'.2
    rwa [show i + 1 + (k : Int) = i + ((k + 1 : Nat) : Int) by omega] at this
theorem vs_no {l : List Ver} {k : Nat} {x : Ver} (h : l[k]? = some x) (hv : vOk x k = false) : vsOk l = false := by
  cases hh : vsFrom 0 l
  · simp [vsOk, hh]
  · have := vsFrom_get l 0 k x h hh
    rw [show (0 : Int) + k = k by omega, hv] at this
    cases this
theorem vs_long {l : List Ver} (h : 12 < l.length) : vsOk l = false := by simp [vsOk]; omega

def sealOk (s : Int) (v : Ver) : Bool := pv s && pv v.root && inB v.before (-1) 12 && wordOk (bs v.note)
def sealNext (s : Int) (v : Ver) : Int := if sealOk s v then plist [s, v.root, v.before + 1, printOf (bs v.note)] else -1
theorem seal_off {s : Int} {v : Ver} (h : sealOk s v = false) : sealNext s v = -1 := by unfold sealNext; rw [h]; rfl
theorem seal_parts {s : Int} {v : Ver} (h : sealOk s v = true) : pv s = true ∧ pv v.root = true ∧ pv (v.before + 1) = true ∧ pv (printOf (bs v.note)) = true := by
  simp only [sealOk, Bool.and_eq_true] at h
  have := inB_yes h.1.2
  exact ⟨h.1.1.1, h.1.1.2, inB_iff.2 ⟨by omega, by omega⟩, printOf_in (wordOk_text h.2)⟩
theorem seal_on {s : Int} {v : Ver} (h : sealOk s v = true) : sealNext s v = pair (pair (pair (pair 5 s) v.root) (v.before + 1)) (printOf (bs v.note)) := by
  obtain ⟨h1, h2, h3, h4⟩ := seal_parts h
  unfold sealNext
  rw [if_pos h, plist_on (by simp [plOk, h1, h2, h3, h4])]
  rfl
theorem seal_in {s : Int} {v : Ver} (h : sealOk s v = true) : pv (sealNext s v) = true := by
  obtain ⟨h1, h2, h3, h4⟩ := seal_parts h
  rw [seal_on h]
  exact pair_in (pair_in (pair_in (pair_in (by decide) h1) h2) h3) h4
theorem seal_root {s r : Int} {v : Ver} (h : sealOk s v = true) (h' : pv r = true) (hr : r ≠ v.root) : sealNext s { v with root := r } ≠ sealNext s v := by
  have hk : sealOk s { v with root := r } = true := by
    simp only [sealOk, Bool.and_eq_true] at h ⊢
    exact ⟨⟨⟨h.1.1.1, h'⟩, h.1.2⟩, h.2⟩
  obtain ⟨h1, h2, h3, h4⟩ := seal_parts h
  rw [seal_on h, seal_on hk]
  intro e
  have p5 : pv 5 = true := by decide
  have e1 := pair_inj1 h4 (pair_in (pair_in (pair_in p5 h1) h') h3) (pair_in (pair_in (pair_in p5 h1) h2) h3) e
  have e2 := pair_inj1 h3 (pair_in (pair_in p5 h1) h') (pair_in (pair_in p5 h1) h2) e1
  exact hr (pair_inj2 (pair_in p5 h1) h' h2 e2)
theorem seal_seal {s s' : Int} {v : Ver} (h : sealOk s v = true) (h' : pv s' = true) (hs : s' ≠ s) : sealNext s' v ≠ sealNext s v := by
  have hk : sealOk s' v = true := by
    simp only [sealOk, Bool.and_eq_true] at h ⊢
    exact ⟨⟨⟨h', h.1.1.2⟩, h.1.2⟩, h.2⟩
  obtain ⟨h1, h2, h3, h4⟩ := seal_parts h
  rw [seal_on h, seal_on hk]
  intro e
  have p5 : pv 5 = true := by decide
  have e1 := pair_inj1 h4 (pair_in (pair_in (pair_in p5 h') h2) h3) (pair_in (pair_in (pair_in p5 h1) h2) h3) e
  have e2 := pair_inj1 h3 (pair_in (pair_in p5 h') h2) (pair_in (pair_in p5 h1) h2) e1
  have e3 := pair_inj1 h2 (pair_in p5 h') (pair_in p5 h1) e2
  exact hs (pair_inj2 p5 h' h1 e3)

def sealFold (s : Int) (l : List Ver) : Int := l.foldl sealNext s
def sealsFrom : Int → List Ver → List Int
  | _, [] => []
  | s, v :: r => sealNext s v :: sealsFrom (sealNext s v) r
def sealsOf (l : List Ver) : List Int := if vsOk l then sealsFrom 11 l else []
theorem seals_off {l : List Ver} (h : vsOk l = false) : sealsOf l = [] := by unfold sealsOf; rw [h]; rfl
theorem seals_on {l : List Ver} (h : vsOk l = true) : sealsOf l = sealsFrom 11 l := by unfold sealsOf; rw [h]; rfl
theorem sealsFrom_len : ∀ (s : Int) (l : List Ver), (sealsFrom s l).length = l.length
  | s, [] => rfl
  | s, v :: r => by simp [sealsFrom, sealsFrom_len _ r]
theorem sealsFrom_succ : ∀ (s : Int) (l : List Ver) (k : Nat) (x : Ver), l[k]? = some x → sealsFrom s (l.take (k + 1)) = sealsFrom s (l.take k) ++ [sealNext (sealFold s (l.take k)) x]
  | s, [], k, x, h => by simp at h
  | s, v :: r, 0, x, h => by
    simp at h; subst h
    rfl
  | s, v :: r, k + 1, x, h => by
    have := sealsFrom_succ (sealNext s v) r k x (by simpa using h)
    simp only [List.take_succ_cons, sealsFrom]
    rw [this]
    rfl
theorem sealFold_succ {s : Int} {l : List Ver} {k : Nat} {x : Ver} (h : l[k]? = some x) : sealFold s (l.take (k + 1)) = sealNext (sealFold s (l.take k)) x := foldl_succ _ _ h
/-- Valid versions' seals are prints. -/
theorem vOk_seal {s : Int} {v : Ver} {i : Int} (hs : pv s = true) (hi : i ≤ 12) (h : vOk v i = true) : sealOk s v = true := by
  simp only [vOk, sealOk, Bool.and_eq_true] at h ⊢
  have := inB_yes h.1.2
  exact ⟨⟨⟨hs, h.1.1⟩, inB_iff.2 ⟨by omega, by omega⟩⟩, h.2⟩
theorem sealFold_in : ∀ (l : List Ver) (s i : Int), pv s = true → vsFrom i l = true → i + l.length ≤ 12 → pv (sealFold s l) = true
  | [], s, i, h, _, _ => h
  | v :: r, s, i, h, hv, hl => by
    simp only [vsFrom, Bool.and_eq_true] at hv
    simp only [List.length_cons] at hl
    exact sealFold_in r _ (i + 1) (seal_in (vOk_seal h (by omega) hv.1)) hv.2 (by omega)

/-- The first number at which two lists part; -1 for none. -/
def partAt (k : Nat) : List Int → List Int → Int
  | [], _ => -1
  | _ :: _, [] => k
  | x :: r, y :: t => if x = y then partAt (k + 1) r t else k
theorem partAt_no : ∀ (r t : List Int) (j : Nat), r.length ≤ t.length → (∀ k, k < r.length → r[k]? = t[k]?) → partAt j r t = -1
  | [], _, _, _, _ => rfl
  | _ :: _, [], _, h, _ => by simp at h
  | x :: r, y :: t, j, h, he => by
    have h0 := he 0 (by simp)
    simp at h0
    simp only [partAt, h0, if_true]
    exact partAt_no r t (j + 1) (by simpa using h) (fun k hk => by simpa using he (k + 1) (by simp; omega))
theorem partAt_yes : ∀ (r t : List Int) (j k : Nat) (x : Int), r[k]? = some x → t[k]? ≠ some x → (∀ i, i < k → r[i]? = t[i]?) → partAt j r t = j + k
  | [], t, j, k, x, h, _, _ => by simp at h
  | y :: r, [], j, k, x, h, hn, he => by
    cases k with
    | zero => simp [partAt]
    | succ k => have := he 0 (by omega); simp at this
  | y :: r, z :: t, j, 0, x, h, hn, he => by
    simp at h hn
    subst h
    simp only [partAt]
    rw [if_neg (fun e => hn e.symm)]
    simp
  | y :: r, z :: t, j, k + 1, x, h, hn, he => by
    have h0 := he 0 (by omega)
    simp at h0
    simp only [partAt, h0, if_true]
    rw [partAt_yes r t (j + 1) k x (by simpa using h) (by simpa using hn) (fun i hi => by simpa using he (i + 1) (by omega))]
    omega
def sealsRight (l : List Ver) (s : List Int) : Int := if vsOk l && decide (s.length ≤ l.length) then partAt 0 (sealsOf l) s else -2

end Go.Proofs.YtkfkcbceoekgjaaDoor
