/- Plain facts on ages, boxes and kept days. No program in sight. -/
import Derived.Test.YtlkcbfolpfckgaaBase
namespace Go.Proofs.Ytlkcbfolpfckgaa
open Go.RowKit

def ageBox (a : Int) : Int := if a < 0 ∨ 10000 < a then -1 else if a < 7 then a else if a < 28 then 100 + a / 7 else 200 + a / 28

theorem ageBox_mono (a : Int) (h : 0 ≤ a) (h' : a + 1 ≤ 10000) : ageBox a ≤ ageBox (a + 1) := by
  unfold ageBox; (repeat' split) <;> omega
theorem ageBox_neg {a : Int} (h : ageBox a < 0) : ageBox a = -1 := by
  revert h; unfold ageBox; (repeat' split) <;> omega
theorem ageBox_range {a : Int} (h : ¬ ageBox a < 0) : 0 ≤ a ∧ a ≤ 10000 := by
  revert h; unfold ageBox; (repeat' split) <;> omega
theorem ageBox_pos {a : Int} (h : 0 ≤ a) (h' : a ≤ 10000) : 0 ≤ ageBox a := by
  unfold ageBox; (repeat' split) <;> omega

/-- Is a day's box another one than the next day's? -/
def parts (now d e : Int) : Bool := ageBox (now - d) != ageBox (now - e)

def kmarks (now : Int) : List Int → List Bool
  | [] => []
  | [_] => [true]
  | d :: e :: r => parts now d e :: kmarks now (e :: r)

theorem kmarks_len (now : Int) : ∀ l : List Int, (kmarks now l).length = l.length
  | [] => rfl
  | [_] => rfl
  | d :: e :: r => by simp [kmarks, kmarks_len now (e :: r)]

theorem kmarks_last (now : Int) : ∀ (l : List Int) (k : Nat), k + 1 = l.length → (kmarks now l)[k]? = some true
  | [], k, h => by simp at h
  | [_], k, h => by
    have : k = 0 := by simpa using h
    subst this; rfl
  | d :: e :: r, 0, h => by simp at h
  | d :: e :: r, k + 1, h => by
    have := kmarks_last now (e :: r) k (by simpa using h)
    simpa [kmarks] using this

theorem kmarks_mid (now : Int) : ∀ (l : List Int) (k : Nat) (d e : Int), l[k]? = some d → l[k + 1]? = some e → (kmarks now l)[k]? = some (parts now d e)
  | [], k, d, e, h, _ => by simp at h
  | [_], k, d, e, _, h => by simp at h
  | a :: b :: r, 0, d, e, h, h' => by
    simp at h h'
    subst h h'
    rfl
  | a :: b :: r, k + 1, d, e, h, h' => by
    have := kmarks_mid now (b :: r) k d e (by simpa using h) (by simpa using h')
    simpa [kmarks] using this

/-- Days that keeping takes: at most 40, in 0..now, none descending, now a day. -/
def sorted : List Int → Bool
  | [] => true
  | [_] => true
  | d :: e :: r => decide (d ≤ e) && sorted (e :: r)
def dayIn (now d : Int) : Bool := decide (0 ≤ d) && decide (d ≤ now)
def daysOk (now : Int) (l : List Int) : Bool := (decide (0 ≤ now) && decide (now ≤ 10000)) && decide (l.length ≤ 40) && l.all (dayIn now) && sorted l
def keepMarks (l : List Int) (now : Int) : List Bool := if daysOk now l then kmarks now l else []

theorem sorted_succ : ∀ (xs : List Int) (k : Nat) (y x : Int), xs[k]? = some y → xs[k + 1]? = some x → sorted (xs.take (k + 2)) = (sorted (xs.take (k + 1)) && decide (y ≤ x))
  | [], k, y, x, h, _ => by simp at h
  | [_], k, y, x, _, h => by simp at h
  | a :: b :: r, 0, y, x, h, h' => by
    simp at h h'
    subst h h'
    simp [sorted]
  | a :: b :: r, k + 1, y, x, h, h' => by
    have := sorted_succ (b :: r) k y x (by simpa using h) (by simpa using h')
    simp only [List.take_succ_cons, sorted] at this ⊢
    rw [this, Bool.and_assoc]
theorem sorted_no : ∀ (xs : List Int) (k : Nat) (y x : Int), xs[k]? = some y → xs[k + 1]? = some x → x < y → sorted xs = false
  | [], k, y, x, h, _, _ => by simp at h
  | [_], k, y, x, _, h, _ => by simp at h
  | a :: b :: r, 0, y, x, h, h', hl => by
    simp at h h'
    subst h h'
    simp [sorted]; omega
  | a :: b :: r, k + 1, y, x, h, h', hl => by
    have := sorted_no (b :: r) k y x (by simpa using h) (by simpa using h') hl
    simp [sorted, this]
theorem sorted_one {xs : List Int} {k : Nat} {x : Int} (h : xs[k]? = some x) (hk : k ≤ 0) : sorted (xs.take (k + 1)) = true := by
  obtain rfl : k = 0 := by omega
  rw [take_snoc' h]
  rfl
theorem sorted_succ' {xs : List Int} {k : Nat} {y x : Int} (hk : 0 < k) (hy : xs[k - 1]? = some y) (hx : xs[k]? = some x) : sorted (xs.take (k + 1)) = (sorted (xs.take k) && decide (y ≤ x)) := by
  obtain ⟨j, rfl⟩ : ∃ j, k = j + 1 := ⟨k - 1, by omega⟩
  exact sorted_succ xs j y x hy hx
theorem daysOk_no_sorted' {xs : List Int} {now y x : Int} {k : Nat} (hk : 0 < k) (hy : xs[k - 1]? = some y) (hx : xs[k]? = some x) (h : x < y) : daysOk now xs = false := by
  obtain ⟨j, rfl⟩ : ∃ j, k = j + 1 := ⟨k - 1, by omega⟩
  simp [daysOk, sorted_no xs j _ _ hy hx h]
theorem keep_no {xs : List Int} {now : Int} (h : daysOk now xs = false) : keepMarks xs now = [] := by simp [keepMarks, h]
theorem keep_yes {xs : List Int} {now : Int} (h : daysOk now xs = true) : keepMarks xs now = kmarks now xs := by simp [keepMarks, h]
theorem daysOk_no_in {xs : List Int} {now x : Int} {k : Nat} (hx : xs[k]? = some x) (h : dayIn now x = false) : daysOk now xs = false := by
  simp [daysOk, all_no _ hx h]
theorem daysOk_no_sorted {xs : List Int} {now y x : Int} {k : Nat} (hy : xs[k]? = some y) (hx : xs[k + 1]? = some x) (h : x < y) : daysOk now xs = false := by
  simp [daysOk, sorted_no _ _ _ _ hy hx h]
theorem dayIn_yes {now x : Int} (h : dayIn now x = true) : 0 ≤ x ∧ x ≤ now := by simpa [dayIn] using h
theorem dayIn_no {now x : Int} (h : dayIn now x = false) : x < 0 ∨ now < x := by simp [dayIn] at h; omega

/-- The reference's marks: it asks for the box of the next day before it knows that that day is not too late. -/
def wparts (now d e : Int) : Bool := ageBox (now - d) != ageBox (max 0 (wrap64 (now - e)))
def wmarks (now : Int) : List Int → List Bool
  | [] => []
  | [_] => [true]
  | d :: e :: r => wparts now d e :: wmarks now (e :: r)
theorem wmarks_len (now : Int) : ∀ l : List Int, (wmarks now l).length = l.length
  | [] => rfl
  | [_] => rfl
  | d :: e :: r => by simp [wmarks, wmarks_len now (e :: r)]
theorem wmarks_last (now : Int) : ∀ (l : List Int) (k : Nat), k + 1 = l.length → (wmarks now l)[k]? = some true
  | [], k, h => by simp at h
  | [_], k, h => by
    have : k = 0 := by simpa using h
    subst this; rfl
  | d :: e :: r, 0, h => by simp at h
  | d :: e :: r, k + 1, h => by
    have := wmarks_last now (e :: r) k (by simpa using h)
    simpa [wmarks] using this
theorem wmarks_mid (now : Int) : ∀ (l : List Int) (k : Nat) (d e : Int), l[k]? = some d → l[k + 1]? = some e → (wmarks now l)[k]? = some (wparts now d e)
  | [], k, d, e, h, _ => by simp at h
  | [_], k, d, e, _, h => by simp at h
  | a :: b :: r, 0, d, e, h, h' => by
    simp at h h'
    subst h h'
    rfl
  | a :: b :: r, k + 1, d, e, h, h' => by
    have := wmarks_mid now (b :: r) k d e (by simpa using h) (by simpa using h')
    simpa [wmarks] using this
theorem wmarks_eq (now : Int) (h0 : now ≤ 10000) : ∀ l : List Int, l.all (dayIn now) = true → wmarks now l = kmarks now l
  | [], _ => rfl
  | [_], _ => rfl
  | d :: e :: r, h => by
    have h2 : (e :: r).all (dayIn now) = true := by
      rw [List.all_cons] at h
      exact (Bool.and_eq_true_iff.1 h).2
    have he : 0 ≤ e ∧ e ≤ now := by
      have := List.all_eq_true.1 h2 e (by simp)
      simpa [dayIn] using this
    have hw : wrap64 (now - e) = now - e := IntWalk.wrap64_in _ (by omega)
    have : max 0 (now - e) = now - e := by omega
    simp only [wmarks, kmarks, wparts, parts, hw, this, wmarks_eq now h0 (e :: r) h2]

/-- The days that are marked. -/
def keptBy : List Int → List Bool → List Int
  | d :: l, m :: ms => if m then d :: keptBy l ms else keptBy l ms
  | _, _ => []
def keptDays (l : List Int) (now : Int) : List Int := keptBy l (keepMarks l now)

theorem keptBy_nil (l : List Int) : keptBy l [] = [] := by cases l <;> rfl
theorem keptBy_len : ∀ (l : List Int) (ms : List Bool), (keptBy l ms).length ≤ l.length
  | [], ms => by simp [keptBy]
  | d :: l, [] => by simp [keptBy]
  | d :: l, m :: ms => by
    have := keptBy_len l ms
    simp only [keptBy]
    split <;> simp <;> omega
theorem keptBy_snoc : ∀ (l : List Int) (ms : List Bool) (k : Nat) (d : Int) (m : Bool), l[k]? = some d → ms[k]? = some m →
    keptBy l (ms.take (k + 1)) = keptBy l (ms.take k) ++ (if m then [d] else [])
  | [], ms, k, d, m, h, _ => by simp at h
  | a :: l, [], k, d, m, _, h => by simp at h
  | a :: l, b :: ms, 0, d, m, h, h' => by
    simp at h h'
    subst h h'
    simp [keptBy, keptBy_nil]
  | a :: l, b :: ms, k + 1, d, m, h, h' => by
    have := keptBy_snoc l ms k d m (by simpa using h) (by simpa using h')
    simp only [List.take_succ_cons, keptBy]
    split <;> simp [this]

theorem sorted_pairwise : ∀ l : List Int, sorted l = true → l.Pairwise (· ≤ ·)
  | [], _ => List.Pairwise.nil
  | [_], _ => by simp
  | d :: e :: r, h => by
    simp only [sorted, Bool.and_eq_true, decide_eq_true_eq] at h
    have ih := sorted_pairwise (e :: r) h.2
    refine List.pairwise_cons.2 ⟨fun x hx => ?_, ih⟩
    rcases List.mem_cons.1 hx with rfl | hx
    · exact h.1
    · exact Int.le_trans h.1 ((List.pairwise_cons.1 ih).1 x hx)
theorem pairwise_sorted : ∀ l : List Int, l.Pairwise (· ≤ ·) → sorted l = true
  | [], _ => rfl
  | [_], _ => rfl
  | d :: e :: r, h => by
    obtain ⟨h1, h2⟩ := List.pairwise_cons.1 h
    simp only [sorted, Bool.and_eq_true, decide_eq_true_eq]
    exact ⟨h1 e (by simp), pairwise_sorted (e :: r) h2⟩
theorem keptBy_sub : ∀ (l : List Int) (ms : List Bool), (keptBy l ms).Sublist l
  | [], ms => by simp [keptBy]
  | d :: l, [] => by simp [keptBy]
  | d :: l, m :: ms => by
    simp only [keptBy]
    split
    · exact (keptBy_sub l ms).cons_cons d
    · exact (keptBy_sub l ms).cons d
theorem daysOk_sub {now : Int} {l l' : List Int} (h : daysOk now l = true) (hs : l'.Sublist l) : daysOk now l' = true := by
  simp only [daysOk, Bool.and_eq_true, decide_eq_true_eq, List.all_eq_true] at h ⊢
  obtain ⟨⟨⟨h1, h2⟩, h3⟩, h4⟩ := h
  exact ⟨⟨⟨h1, Nat.le_trans hs.length_le h2⟩, fun x hx => h3 x (hs.subset hx)⟩, pairwise_sorted _ ((sorted_pairwise _ h4).sublist hs)⟩

/-- The first kept day lies in the first day's box. -/
theorem kept_head (now : Int) : ∀ (l : List Int) (d : Int), ∃ h r, keptBy (d :: l) (kmarks now (d :: l)) = h :: r ∧ ageBox (now - h) = ageBox (now - d)
  | [], d => ⟨d, [], rfl, rfl⟩
  | e :: l, d => by
    cases hp : parts now d e with
    | true => exact ⟨d, _, by simp [kmarks, keptBy, hp]; rfl, rfl⟩
    | false =>
      obtain ⟨h, r, h1, h2⟩ := kept_head now l e
      refine ⟨h, r, by simpa [kmarks, keptBy, hp] using h1, h2.trans ?_⟩
      simp only [parts, bne_eq_false_iff_eq] at hp
      exact hp.symm
theorem kept_again (now : Int) : ∀ l : List Int, keptBy (keptBy l (kmarks now l)) (kmarks now (keptBy l (kmarks now l))) = keptBy l (kmarks now l)
  | [] => rfl
  | [_] => rfl
  | d :: e :: l => by
    have ih := kept_again now (e :: l)
    cases hp : parts now d e with
    | false => simpa [kmarks, keptBy, hp] using ih
    | true =>
      obtain ⟨h, r, h1, h2⟩ := kept_head now l e
      have hk : keptBy (d :: e :: l) (kmarks now (d :: e :: l)) = d :: h :: r := by simp [kmarks, keptBy, hp, h1]
      have hp' : parts now d h = true := by unfold parts at hp ⊢; rw [h2]; exact hp
      rw [h1] at ih
      rw [hk]
      simp only [kmarks, keptBy, hp']
      rw [if_pos trivial, ih]
theorem keptDays_again (l : List Int) (now : Int) : keptDays (keptDays l now) now = keptDays l now := by
  unfold keptDays keepMarks
  cases h : daysOk now l with
  | false => simp [keptBy_nil]; split <;> simp [keptBy]
  | true =>
    simp only [if_true]
    rw [daysOk_sub h (keptBy_sub _ _)]
    exact kept_again now l
theorem keptDays_len (l : List Int) (now : Int) : (keptDays l now).length ≤ l.length := keptBy_len _ _

/-- What the law on marks asks, day by day: a marked day's box is not the last marked one's. -/
def lawMarks (now : Int) : Int → List Int → List Bool → Bool
  | last, d :: l, m :: ms => if m then ageBox (now - d) != last && lawMarks now (ageBox (now - d)) l ms else lawMarks now last l ms
  | _, _, _ => true
theorem lawMarks_yes (now : Int) : ∀ (l : List Int) (d last : Int), last ≠ ageBox (now - d) → lawMarks now last (d :: l) (kmarks now (d :: l)) = true
  | [], d, last, h => by simp [kmarks, lawMarks, Ne.symm h]
  | e :: l, d, last, h => by
    cases hp : parts now d e with
    | true =>
      have := lawMarks_yes now l e (ageBox (now - d)) (by simpa [parts] using hp)
      simpa [kmarks, lawMarks, hp, Ne.symm h] using this
    | false =>
      have he : ageBox (now - d) = ageBox (now - e) := by simpa [parts] using hp
      have := lawMarks_yes now l e last (by rw [← he]; exact h)
      simpa [kmarks, lawMarks, hp] using this

end Go.Proofs.Ytlkcbfolpfckgaa
