/- Plain facts on stores of pieces. No program in sight. -/
import Derived.Test.YtkfkcbceoekgjaaDoorPrintP
import Derived.Test.YtkfkcbceoekgjaaDoorCacheP
namespace Go.Proofs.YtkfkcbceoekgjaaDoor
open Go.RowKit

structure Pc where
  print : Int
  text : ByteArray
def pcOk (p : Pc) : Bool := textOk (bs p.text) && decide (p.print = printOf (bs p.text))
def stFrom : Int → List Pc → Bool
  | _, [] => true
  | i, p :: r => pcOk p && decide (i < p.print) && stFrom p.print r
def storeOk (l : List Pc) : Bool := decide (l.length ≤ 40) && stFrom (-1) l
/-- The print ahead of number k; -1 for none. -/
def lastAt (i : Int) (l : List Pc) : Nat → Int
  | 0 => i
  | k + 1 => match l[k]? with | some p => p.print | none => i
theorem lastAt_zero (i : Int) (l : List Pc) : lastAt i l 0 = i := rfl
theorem lastAt_succ {i : Int} {l : List Pc} {k : Nat} {x : Pc} (h : l[k]? = some x) : lastAt i l (k + 1) = x.print := by simp [lastAt, h]
theorem stFrom_succ : ∀ (l : List Pc) (i : Int) (k : Nat) (x : Pc), l[k]? = some x → stFrom i (l.take (k + 1)) = (stFrom i (l.take k) && (pcOk x && decide (lastAt i l k < x.print)))
  | [], i, k, x, h => by simp at h
  | p :: r, i, 0, x, h => by
    simp at h; subst h
    rw [Bool.eq_iff_iff]
    simp [stFrom, lastAt]
    exact fun _ => ⟨fun h => decide_eq_true h, of_decide_eq_true⟩
  | p :: r, i, 1, x, h => by
    have := stFrom_succ r p.print 0 x (by simpa using h)
    simp only [List.take_succ_cons, stFrom]
    rw [this, Bool.eq_iff_iff]
    simp [stFrom, lastAt, and_assoc]
    exact fun _ _ _ => ⟨of_decide_eq_true, fun h => decide_eq_true h⟩
  | p :: r, i, k + 2, x, h => by
    have hg : r[k + 1]? = some x := by simpa using h
    have := stFrom_succ r p.print (k + 1) x hg
    have hk : k < r.length := by have := (List.getElem?_eq_some_iff.1 hg).1; omega
    simp only [List.take_succ_cons, stFrom] at this ⊢
    rw [this, Bool.eq_iff_iff]
    simp [lastAt, List.getElem?_eq_getElem hk, and_assoc]
theorem stFrom_get : ∀ (l : List Pc) (i : Int) (k : Nat) (x : Pc), l[k]? = some x → stFrom i l = true → pcOk x = true ∧ lastAt i l k < x.print
  | [], i, k, x, h, _ => by simp at h
  | p :: r, i, 0, x, h, h' => by
    simp at h; subst h
    simp only [stFrom, Bool.and_eq_true, decide_eq_true_eq] at h'
    exact h'.1
  | p :: r, i, 1, x, h, h' => by
    simp only [stFrom, Bool.and_eq_true, decide_eq_true_eq] at h'
    have := stFrom_get r p.print 0 x (by simpa using h) h'.2
    simpa [lastAt] using this
  | p :: r, i, k + 2, x, h, h' => by
    simp only [stFrom, Bool.and_eq_true, decide_eq_true_eq] at h'
    have hg : r[k + 1]? = some x := by simpa using h
    have := stFrom_get r p.print (k + 1) x hg h'.2
    have hk : k < r.length := by have := (List.getElem?_eq_some_iff.1 hg).1; omega
    simpa [lastAt, List.getElem?_eq_getElem hk] using this
theorem st_no {l : List Pc} {k : Nat} {x : Pc} (h : l[k]? = some x) (hv : (pcOk x && decide (lastAt (-1) l k < x.print)) = false) : storeOk l = false := by
  cases hh : stFrom (-1) l
  · simp [storeOk, hh]
  · have := stFrom_get l (-1) k x h hh
    simp [this.1, this.2] at hv
theorem st_long {l : List Pc} (h : 40 < l.length) : storeOk l = false := by simp [storeOk]; omega
theorem st_in {l : List Pc} (h : storeOk l = true) : l.length ≤ 40 ∧ stFrom (-1) l = true := by simpa [storeOk] using h
theorem pcOk_iff {p : Pc} : pcOk p = true ↔ textOk (bs p.text) = true ∧ p.print = printOf (bs p.text) := by simp [pcOk]
theorem pcOk_pv {p : Pc} (h : pcOk p = true) : 0 ≤ p.print ∧ p.print ≤ 16777212 := by
  obtain ⟨h1, h2⟩ := pcOk_iff.1 h
  have := printOf_in h1
  rw [← h2] at this
  exact pv_iff.1 this
theorem stFrom_all : ∀ {l : List Pc} {i : Int}, stFrom i l = true → ∀ x ∈ l, pcOk x = true ∧ i < x.print
  | [], _, _, _, h => by simp at h
  | p :: r, i, h, x, hx => by
    simp only [stFrom, Bool.and_eq_true, decide_eq_true_eq] at h
    rcases List.mem_cons.1 hx with rfl | hx
    · exact h.1
    · have := stFrom_all h.2 x hx
      exact ⟨this.1, by omega⟩
theorem st_all {l : List Pc} (h : storeOk l = true) {x : Pc} (hx : x ∈ l) : pcOk x = true := (stFrom_all (st_in h).2 x hx).1
theorem stFrom_asc : ∀ {l : List Pc} {i : Int}, stFrom i l = true → l.Pairwise (fun a b => a.print < b.print)
  | [], _, _ => List.Pairwise.nil
  | p :: r, i, h => by
    simp only [stFrom, Bool.and_eq_true, decide_eq_true_eq] at h
    exact List.Pairwise.cons (fun x hx => (stFrom_all h.2 x hx).2) (stFrom_asc h.2)
theorem stFrom_of : ∀ {l : List Pc} {i : Int}, (∀ x ∈ l, pcOk x = true ∧ i < x.print) → l.Pairwise (fun a b => a.print < b.print) → stFrom i l = true
  | [], _, _, _ => rfl
  | p :: r, i, h, h' => by
    obtain ⟨h1, h2⟩ := List.pairwise_cons.1 h'
    simp only [stFrom, Bool.and_eq_true, decide_eq_true_eq]
    exact ⟨h p (by simp), stFrom_of (fun x hx => ⟨(h x (by simp [hx])).1, h1 x hx⟩) h2⟩
theorem st_asc {l : List Pc} (h : storeOk l = true) : l.Pairwise (fun a b => a.print < b.print) := stFrom_asc (st_in h).2
theorem st_iff {l : List Pc} : storeOk l = true ↔ l.length ≤ 40 ∧ (∀ x ∈ l, pcOk x = true) ∧ l.Pairwise (fun a b => a.print < b.print) := by
  constructor
  · intro h; exact ⟨(st_in h).1, fun x hx => st_all h hx, st_asc h⟩
  · rintro ⟨h1, h2, h3⟩
    have := stFrom_of (i := -1) (fun x hx => ⟨h2 x hx, by have := pcOk_pv (h2 x hx); omega⟩) h3
    simp [storeOk, this, h1]
theorem textOk_size {t : ByteArray} (h : textOk (bs t) = true) : t.size ≤ 60 := by
  simp only [textOk, Bool.and_eq_true, decide_eq_true_eq] at h
  simpa using h.1
theorem st_text {l : List Pc} (h : storeOk l = true) {x : Pc} (hx : x ∈ l) : x.text.size ≤ 60 := textOk_size (pcOk_iff.1 (st_all h hx)).1
theorem asc_get {l : List Pc} (h : l.Pairwise (fun a b => a.print < b.print)) {i j : Nat} {x y : Pc} (hi : l[i]? = some x) (hj : l[j]? = some y) (hij : i < j) : x.print < y.print := by
  obtain ⟨h1, e1⟩ := List.getElem?_eq_some_iff.1 hi
  obtain ⟨h2, e2⟩ := List.getElem?_eq_some_iff.1 hj
  rw [← e1, ← e2]
  exact List.pairwise_iff_getElem.1 h i j h1 h2 hij

/-- The text with a print. -/
def getP (l : List Pc) (n : Int) : Option ByteArray := (l.find? (fun p => p.print = n)).map (·.text)
def hasP (l : List Pc) (n : Int) : Bool := (getP l n).isSome
theorem getP_at {l : List Pc} {k : Nat} {x : Pc} (h : l[k]? = some x) (ha : ∀ j y, j < k → l[j]? = some y → y.print ≠ x.print) : getP l x.print = some x.text := by
  unfold getP
  have : l.find? (fun p => p.print = x.print) = some x := by
    rw [List.find?_eq_some_iff_getElem]
    obtain ⟨h1, e1⟩ := List.getElem?_eq_some_iff.1 h
    refine ⟨by simp, k, h1, e1, fun j hj => ?_⟩
    have := ha j (l[j]'(by omega)) hj (List.getElem?_eq_getElem _)
    simpa using this
  rw [this]; rfl
theorem getP_none {l : List Pc} {n : Int} (h : ∀ x ∈ l, x.print ≠ n) : getP l n = none := by
  unfold getP
  rw [List.find?_eq_none.2 (fun x hx => by simpa using h x hx)]
  rfl
theorem getP_ex {l : List Pc} {n : Int} {t : ByteArray} (h : getP l n = some t) : ∃ (k : Nat) (x : Pc), l[k]? = some x ∧ x.print = n ∧ x.text = t := by
  unfold getP at h
  obtain ⟨x, hx, rfl⟩ := Option.map_eq_some_iff.1 h
  obtain ⟨h1, k, h2, h3, _⟩ := List.find?_eq_some_iff_getElem.1 hx
  exact ⟨k, x, by rw [List.getElem?_eq_getElem h2, h3], by simpa using h1, rfl⟩
theorem getP_text {l : List Pc} {n : Int} {t : ByteArray} (h : storeOk l = true) (hg : getP l n = some t) : textOk (bs t) = true ∧ printOf (bs t) = n ∧ t.size ≤ 60 := by
  obtain ⟨k, x, h1, rfl, rfl⟩ := getP_ex hg
  have hp := pcOk_iff.1 (st_all h (List.mem_of_getElem? h1))
  exact ⟨hp.1, hp.2.symm, textOk_size hp.1⟩
theorem hasP_iff {l : List Pc} {n : Int} : hasP l n = true ↔ ∃ x ∈ l, x.print = n := by
  constructor
  · intro h
    unfold hasP at h
    obtain ⟨t, ht⟩ := Option.isSome_iff_exists.1 h
    obtain ⟨k, x, h1, h2, _⟩ := getP_ex ht
    exact ⟨x, List.mem_of_getElem? h1, h2⟩
  · rintro ⟨x, hx, rfl⟩
    cases hh : getP l x.print
    · exfalso
      unfold getP at hh
      simp only [Option.map_eq_none_iff] at hh
      have := List.find?_eq_none.1 hh x hx
      simp at this
    · unfold hasP; rw [hh]; rfl

/-- The place of a print in an ascending row: so many have a smaller print. -/
def findAt (l : List Pc) (n : Int) : Nat := (l.takeWhile (fun p => decide (p.print < n))).length
theorem takeWhile_len {α : Type} (p : α → Bool) : ∀ (l : List α) (k : Nat), k ≤ l.length → (∀ j x, j < k → l[j]? = some x → p x = true) → (∀ x, l[k]? = some x → p x = false) → (l.takeWhile p).length = k
  | [], k, hk, _, _ => by simp at hk; simp [hk]
  | x :: r, 0, _, _, h => by
    have := h x (by simp)
    simp [this]
  | x :: r, k + 1, hk, h1, h2 => by
    have := h1 0 x (by omega) (by simp)
    rw [List.takeWhile_cons, this]
    simp only [if_true, List.length_cons]
    rw [takeWhile_len p r k (by simpa using hk) (fun j y hj hy => h1 (j + 1) y (by omega) (by simpa using hy)) (fun y hy => h2 y (by simpa using hy))]
theorem findAt_eq {l : List Pc} {n : Int} {k : Nat} (hk : k ≤ l.length) (h1 : ∀ j x, j < k → l[j]? = some x → x.print < n) (h2 : ∀ x, l[k]? = some x → n ≤ x.print) : findAt l n = k := by
  unfold findAt
  refine takeWhile_len _ l k hk (fun j x hj hx => by simpa using h1 j x hj hx) (fun x hx => ?_)
  have := h2 x hx
  simp; omega
theorem findAt_le (l : List Pc) (n : Int) : findAt l n ≤ l.length := by
  unfold findAt
  have := (List.takeWhile_prefix (l := l) (fun p => decide (p.print < n))).length_le
  exact this
theorem find_has {l : List Pc} {n : Int} {x : Pc} (ha : l.Pairwise (fun a b => a.print < b.print)) (h : l[findAt l n]? = some x) (hn : x.print = n) : getP l n = some x.text := by
  subst hn
  refine getP_at h (fun j y hj hy he => ?_)
  have := asc_get ha hy h hj
  omega
theorem findAt_below {l : List Pc} {n : Int} {j : Nat} {x : Pc} (hj : j < findAt l n) (h : l[j]? = some x) : x.print < n := by
  unfold findAt at hj
  obtain ⟨h1, e1⟩ := List.getElem?_eq_some_iff.1 h
  have hm : (l.takeWhile (fun p => decide (p.print < n)))[j]? = some x := by
    have hp := List.takeWhile_prefix (l := l) (fun p => decide (p.print < n))
    obtain ⟨t, ht⟩ := hp
    have : ((l.takeWhile (fun p => decide (p.print < n))) ++ t)[j]? = some x := by rw [ht]; exact h
    rwa [List.getElem?_append_left hj] at this
  have := List.mem_of_getElem? hm
  have hall := List.all_takeWhile (p := fun p : Pc => decide (p.print < n)) (l := l)
  have := List.all_eq_true.1 hall x this
  simpa using this
theorem findAt_at {l : List Pc} {n : Int} {x : Pc} (h : l[findAt l n]? = some x) : n ≤ x.print := by
  have : ∀ (l : List Pc), l[findAt l n]? = some x → ¬ x.print < n := by
    intro l
    induction l with
    | nil => intro h; simp at h
    | cons p r ih =>
      intro h
      unfold findAt at h
      rw [List.takeWhile_cons] at h
      by_cases hp : p.print < n
      · rw [if_pos (by simpa using hp)] at h
        exact ih (by simpa [findAt] using h)
      · rw [if_neg (by simpa using hp)] at h
        simp at h; subst h; exact hp
  have := this l h
  omega
theorem find_no {l : List Pc} {n : Int} (ha : l.Pairwise (fun a b => a.print < b.print)) (h : ∀ x, l[findAt l n]? = some x → x.print ≠ n) : getP l n = none := by
  refine getP_none (fun x hx he => ?_)
  obtain ⟨j, hj, e⟩ := List.getElem_of_mem hx
  have hg : l[j]? = some x := by rw [List.getElem?_eq_getElem hj, e]
  rcases Nat.lt_trichotomy j (findAt l n) with hlt | heq | hgt
  · have := findAt_below hlt hg; omega
  · exact h x (heq ▸ hg) he
  · obtain ⟨y, hy⟩ : ∃ y, l[findAt l n]? = some y := ⟨l[findAt l n]'(by omega), List.getElem?_eq_getElem _⟩
    have h1 := findAt_at hy
    have h2 := asc_get ha hy hg hgt
    omega

/-! ### Prints that are wanted, texts to send -/
def wantStep (l : List Pc) (out : List Int) (n : Int) : List Int := if hasP l n || hasI out n then out else out ++ [n]
def wantFrom (l : List Pc) (ns : List Int) : List Int := ns.foldl (wantStep l) []
def wantedOf (l : List Pc) (ns : List Int) : List Int := if storeOk l then wantFrom l ns else []
theorem wantFrom_succ {l : List Pc} {ns : List Int} {k : Nat} {x : Int} (h : ns[k]? = some x) : wantFrom l (ns.take (k + 1)) = wantStep l (wantFrom l (ns.take k)) x := foldl_succ _ _ h
theorem wantFrom_len (l : List Pc) : ∀ (ns : List Int) (out : List Int), (ns.foldl (wantStep l) out).length ≤ out.length + ns.length
  | [], out => by simp
  | n :: r, out => by
    rw [List.foldl_cons]
    have := wantFrom_len l r (wantStep l out n)
    have h2 : (wantStep l out n).length ≤ out.length + 1 := by unfold wantStep; split <;> simp
    simp only [List.length_cons]; omega
def sendStep (l : List Pc) (out : List ByteArray) (n : Int) : List ByteArray := match getP l n with | some t => out ++ [t] | none => out
def sendFrom (l : List Pc) (ns : List Int) : List ByteArray := ns.foldl (sendStep l) []
def sendTexts (l : List Pc) (ns : List Int) : List ByteArray := if storeOk l then sendFrom l ns else []
theorem sendFrom_succ {l : List Pc} {ns : List Int} {k : Nat} {x : Int} (h : ns[k]? = some x) : sendFrom l (ns.take (k + 1)) = sendStep l (sendFrom l (ns.take k)) x := foldl_succ _ _ h
theorem sendFrom_len (l : List Pc) : ∀ (ns : List Int) (out : List ByteArray), (ns.foldl (sendStep l) out).length ≤ out.length + ns.length
  | [], out => by simp
  | n :: r, out => by
    rw [List.foldl_cons]
    have := sendFrom_len l r (sendStep l out n)
    have h2 : (sendStep l out n).length ≤ out.length + 1 := by unfold sendStep; split <;> simp
    simp only [List.length_cons]; omega

end Go.Proofs.YtkfkcbceoekgjaaDoor
