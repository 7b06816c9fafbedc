/- Walks and plain facts, joined: PcP, Print, InvR, Mark, DrawPr. -/
import Derived.Test.YtnaahincolooeaaGreatDoorMg2
import Derived.Test.YtnaahincolooeaaGreatDoorMg3
import Derived.Test.YtnaahincolooeaaGreatDoorMg6
set_option linter.unusedVariables false
set_option linter.unusedSimpArgs false

/- Plain facts on stores of pieces. No program in sight. -/
namespace Go.Proofs.YtnaahincolooeaaGreatDoor
open Go.RowKit

structure Pc where
  print : Int
  text : ByteArray
def pcOk (p : Pc) : Bool := textOk (bs p.text) && decide (p.print = printOf (bs p.text))
def stFrom : Int → List Pc → Bool
  | _, [] => true
  | i, p :: r => pcOk p && decide (i < p.print) && stFrom p.print r
def storeOk (l : List Pc) : Bool := decide (l.length ≤ 40) && stFrom (-1) l
/-- The print ahead of number k; -1 for none. -/
def lastAt (i : Int) (l : List Pc) : Nat → Int
  | 0 => i
  | k + 1 => match l[k]? with | some p => p.print | none => i
theorem lastAt_zero (i : Int) (l : List Pc) : lastAt i l 0 = i := rfl
theorem lastAt_succ {i : Int} {l : List Pc} {k : Nat} {x : Pc} (h : l[k]? = some x) : lastAt i l (k + 1) = x.print := by simp [lastAt, h]
theorem stFrom_succ : ∀ (l : List Pc) (i : Int) (k : Nat) (x : Pc), l[k]? = some x → stFrom i (l.take (k + 1)) = (stFrom i (l.take k) && (pcOk x && decide (lastAt i l k < x.print)))
  | [], i, k, x, h => by simp at h
  | p :: r, i, 0, x, h => by
    simp at h; subst h
    rw [Bool.eq_iff_iff]
    simp [stFrom, lastAt]
    exact fun _ => ⟨fun h => decide_eq_true h, of_decide_eq_true⟩
  | p :: r, i, 1, x, h => by
    have := stFrom_succ r p.print 0 x (by simpa using h)
    simp only [List.take_succ_cons, stFrom]
    rw [this, Bool.eq_iff_iff]
    simp [stFrom, lastAt, and_assoc]
    exact fun _ _ _ => ⟨of_decide_eq_true, fun h => decide_eq_true h⟩
  | p :: r, i, k + 2, x, h => by
    have hg : r[k + 1]? = some x := by simpa using h
    have := stFrom_succ r p.print (k + 1) x hg
    have hk : k < r.length := by have := (List.getElem?_eq_some_iff.1 hg).1; omega
    simp only [List.take_succ_cons, stFrom] at this ⊢
    rw [this, Bool.eq_iff_iff]
    simp [lastAt, List.getElem?_eq_getElem hk, and_assoc]
theorem stFrom_get : ∀ (l : List Pc) (i : Int) (k : Nat) (x : Pc), l[k]? = some x → stFrom i l = true → pcOk x = true ∧ lastAt i l k < x.print
  | [], i, k, x, h, _ => by simp at h
  | p :: r, i, 0, x, h, h' => by
    simp at h; subst h
    simp only [stFrom, Bool.and_eq_true, decide_eq_true_eq] at h'
    exact h'.1
  | p :: r, i, 1, x, h, h' => by
    simp only [stFrom, Bool.and_eq_true, decide_eq_true_eq] at h'
    have := stFrom_get r p.print 0 x (by simpa using h) h'.2
    simpa [lastAt] using this
  | p :: r, i, k + 2, x, h, h' => by
    simp only [stFrom, Bool.and_eq_true, decide_eq_true_eq] at h'
    have hg : r[k + 1]? = some x := by simpa using h
    have := stFrom_get r p.print (k + 1) x hg h'.2
    have hk : k < r.length := by have := (List.getElem?_eq_some_iff.1 hg).1; omega
    simpa [lastAt, List.getElem?_eq_getElem hk] using this
theorem st_no {l : List Pc} {k : Nat} {x : Pc} (h : l[k]? = some x) (hv : (pcOk x && decide (lastAt (-1) l k < x.print)) = false) : storeOk l = false := by
  cases hh : stFrom (-1) l
  · simp [storeOk, hh]
  · have := stFrom_get l (-1) k x h hh
    simp [this.1, this.2] at hv
theorem st_long {l : List Pc} (h : 40 < l.length) : storeOk l = false := by simp [storeOk]; omega
theorem st_in {l : List Pc} (h : storeOk l = true) : l.length ≤ 40 ∧ stFrom (-1) l = true := by simpa [storeOk] using h
theorem pcOk_iff {p : Pc} : pcOk p = true ↔ textOk (bs p.text) = true ∧ p.print = printOf (bs p.text) := by simp [pcOk]
theorem pcOk_pv {p : Pc} (h : pcOk p = true) : 0 ≤ p.print ∧ p.print ≤ 16777212 := by
  obtain ⟨h1, h2⟩ := pcOk_iff.1 h
  have := printOf_in h1
  rw [← h2] at this
  exact pv_iff.1 this
theorem stFrom_all : ∀ {l : List Pc} {i : Int}, stFrom i l = true → ∀ x ∈ l, pcOk x = true ∧ i < x.print
  | [], _, _, _, h => by simp at h
  | p :: r, i, h, x, hx => by
    simp only [stFrom, Bool.and_eq_true, decide_eq_true_eq] at h
    rcases List.mem_cons.1 hx with rfl | hx
    · exact h.1
    · have := stFrom_all h.2 x hx
      exact ⟨this.1, by omega⟩
theorem st_all {l : List Pc} (h : storeOk l = true) {x : Pc} (hx : x ∈ l) : pcOk x = true := (stFrom_all (st_in h).2 x hx).1
theorem stFrom_asc : ∀ {l : List Pc} {i : Int}, stFrom i l = true → l.Pairwise (fun a b => a.print < b.print)
  | [], _, _ => List.Pairwise.nil
  | p :: r, i, h => by
    simp only [stFrom, Bool.and_eq_true, decide_eq_true_eq] at h
    exact List.Pairwise.cons (fun x hx => (stFrom_all h.2 x hx).2) (stFrom_asc h.2)
theorem stFrom_of : ∀ {l : List Pc} {i : Int}, (∀ x ∈ l, pcOk x = true ∧ i < x.print) → l.Pairwise (fun a b => a.print < b.print) → stFrom i l = true
  | [], _, _, _ => rfl
  | p :: r, i, h, h' => by
    obtain ⟨h1, h2⟩ := List.pairwise_cons.1 h'
    simp only [stFrom, Bool.and_eq_true, decide_eq_true_eq]
    exact ⟨h p (by simp), stFrom_of (fun x hx => ⟨(h x (by simp [hx])).1, h1 x hx⟩) h2⟩
theorem st_asc {l : List Pc} (h : storeOk l = true) : l.Pairwise (fun a b => a.print < b.print) := stFrom_asc (st_in h).2
theorem st_iff {l : List Pc} : storeOk l = true ↔ l.length ≤ 40 ∧ (∀ x ∈ l, pcOk x = true) ∧ l.Pairwise (fun a b => a.print < b.print) := by
  constructor
  · intro h; exact ⟨(st_in h).1, fun x hx => st_all h hx, st_asc h⟩
  · rintro ⟨h1, h2, h3⟩
    have := stFrom_of (i := -1) (fun x hx => ⟨h2 x hx, by have := pcOk_pv (h2 x hx); omega⟩) h3
    simp [storeOk, this, h1]
theorem textOk_size {t : ByteArray} (h : textOk (bs t) = true) : t.size ≤ 60 := by
  simp only [textOk, Bool.and_eq_true, decide_eq_true_eq] at h
  simpa using h.1
theorem st_text {l : List Pc} (h : storeOk l = true) {x : Pc} (hx : x ∈ l) : x.text.size ≤ 60 := textOk_size (pcOk_iff.1 (st_all h hx)).1
theorem asc_get {l : List Pc} (h : l.Pairwise (fun a b => a.print < b.print)) {i j : Nat} {x y : Pc} (hi : l[i]? = some x) (hj : l[j]? = some y) (hij : i < j) : x.print < y.print := by
  obtain ⟨h1, e1⟩ := List.getElem?_eq_some_iff.1 hi
  obtain ⟨h2, e2⟩ := List.getElem?_eq_some_iff.1 hj
  rw [← e1, ← e2]
  exact List.pairwise_iff_getElem.1 h i j h1 h2 hij

/-- The text with a print. -/
def getP (l : List Pc) (n : Int) : Option ByteArray := (l.find? (fun p => p.print = n)).map (·.text)
def hasP (l : List Pc) (n : Int) : Bool := (getP l n).isSome
theorem getP_at {l : List Pc} {k : Nat} {x : Pc} (h : l[k]? = some x) (ha : ∀ j y, j < k → l[j]? = some y → y.print ≠ x.print) : getP l x.print = some x.text := by
  unfold getP
  have : l.find? (fun p => p.print = x.print) = some x := by
    rw [List.find?_eq_some_iff_getElem]
    obtain ⟨h1, e1⟩ := List.getElem?_eq_some_iff.1 h
    refine ⟨by simp, k, h1, e1, fun j hj => ?_⟩
    have := ha j (l[j]'(by omega)) hj (List.getElem?_eq_getElem _)
    simpa using this
  rw [this]; rfl
theorem getP_none {l : List Pc} {n : Int} (h : ∀ x ∈ l, x.print ≠ n) : getP l n = none := by
  unfold getP
  rw [List.find?_eq_none.2 (fun x hx => by simpa using h x hx)]
  rfl
theorem getP_ex {l : List Pc} {n : Int} {t : ByteArray} (h : getP l n = some t) : ∃ (k : Nat) (x : Pc), l[k]? = some x ∧ x.print = n ∧ x.text = t := by
  unfold getP at h
  obtain ⟨x, hx, rfl⟩ := Option.map_eq_some_iff.1 h
  obtain ⟨h1, k, h2, h3, _⟩ := List.find?_eq_some_iff_getElem.1 hx
  exact ⟨k, x, by rw [List.getElem?_eq_getElem h2, h3], by simpa using h1, rfl⟩
theorem getP_text {l : List Pc} {n : Int} {t : ByteArray} (h : storeOk l = true) (hg : getP l n = some t) : textOk (bs t) = true ∧ printOf (bs t) = n ∧ t.size ≤ 60 := by
  obtain ⟨k, x, h1, rfl, rfl⟩ := getP_ex hg
  have hp := pcOk_iff.1 (st_all h (List.mem_of_getElem? h1))
  exact ⟨hp.1, hp.2.symm, textOk_size hp.1⟩
theorem hasP_iff {l : List Pc} {n : Int} : hasP l n = true ↔ ∃ x ∈ l, x.print = n := by
  constructor
  · intro h
    unfold hasP at h
    obtain ⟨t, ht⟩ := Option.isSome_iff_exists.1 h
    obtain ⟨k, x, h1, h2, _⟩ := getP_ex ht
    exact ⟨x, List.mem_of_getElem? h1, h2⟩
  · rintro ⟨x, hx, rfl⟩
    cases hh : getP l x.print
    · exfalso
      unfold getP at hh
      simp only [Option.map_eq_none_iff] at hh
      have := List.find?_eq_none.1 hh x hx
      simp at this
    · unfold hasP; rw [hh]; rfl

/-- The place of a print in an ascending row: so many have a smaller print. -/
def findAt (l : List Pc) (n : Int) : Nat := (l.takeWhile (fun p => decide (p.print < n))).length
theorem takeWhile_len {α : Type} (p : α → Bool) : ∀ (l : List α) (k : Nat), k ≤ l.length → (∀ j x, j < k → l[j]? = some x → p x = true) → (∀ x, l[k]? = some x → p x = false) → (l.takeWhile p).length = k
  | [], k, hk, _, _ => by simp at hk; simp [hk]
  | x :: r, 0, _, _, h => by
    have := h x (by simp)
    simp [this]
  | x :: r, k + 1, hk, h1, h2 => by
    have := h1 0 x (by omega) (by simp)
    rw [List.takeWhile_cons, this]
    simp only [if_true, List.length_cons]
    rw [takeWhile_len p r k (by simpa using hk) (fun j y hj hy => h1 (j + 1) y (by omega) (by simpa using hy)) (fun y hy => h2 y (by simpa using hy))]
theorem findAt_eq {l : List Pc} {n : Int} {k : Nat} (hk : k ≤ l.length) (h1 : ∀ j x, j < k → l[j]? = some x → x.print < n) (h2 : ∀ x, l[k]? = some x → n ≤ x.print) : findAt l n = k := by
  unfold findAt
  refine takeWhile_len _ l k hk (fun j x hj hx => by simpa using h1 j x hj hx) (fun x hx => ?_)
  have := h2 x hx
  simp; omega
theorem findAt_le (l : List Pc) (n : Int) : findAt l n ≤ l.length := by
  unfold findAt
  have := (List.takeWhile_prefix (l := l) (fun p => decide (p.print < n))).length_le
  exact this
theorem find_has {l : List Pc} {n : Int} {x : Pc} (ha : l.Pairwise (fun a b => a.print < b.print)) (h : l[findAt l n]? = some x) (hn : x.print = n) : getP l n = some x.text := by
  subst hn
  refine getP_at h (fun j y hj hy he => ?_)
  have := asc_get ha hy h hj
  omega
theorem findAt_below {l : List Pc} {n : Int} {j : Nat} {x : Pc} (hj : j < findAt l n) (h : l[j]? = some x) : x.print < n := by
  unfold findAt at hj
  obtain ⟨h1, e1⟩ := List.getElem?_eq_some_iff.1 h
  have hm : (l.takeWhile (fun p => decide (p.print < n)))[j]? = some x := by
    have hp := List.takeWhile_prefix (l := l) (fun p => decide (p.print < n))
    obtain ⟨t, ht⟩ := hp
    have : ((l.takeWhile (fun p => decide (p.print < n))) ++ t)[j]? = some x := by rw [ht]; exact h
    rwa [List.getElem?_append_left hj] at this
  have := List.mem_of_getElem? hm
  have hall := List.all_takeWhile (p := fun p : Pc => decide (p.print < n)) (l := l)
  have := List.all_eq_true.1 hall x this
  simpa using this
theorem findAt_at {l : List Pc} {n : Int} {x : Pc} (h : l[findAt l n]? = some x) : n ≤ x.print := by
  have : ∀ (l : List Pc), l[findAt l n]? = some x → ¬ x.print < n := by
    intro l
    induction l with
    | nil => intro h; simp at h
    | cons p r ih =>
      intro h
      unfold findAt at h
      rw [List.takeWhile_cons] at h
      by_cases hp : p.print < n
      · rw [if_pos (by simpa using hp)] at h
        exact ih (by simpa [findAt] using h)
      · rw [if_neg (by simpa using hp)] at h
        simp at h; subst h; exact hp
  have := this l h
  omega
theorem find_no {l : List Pc} {n : Int} (ha : l.Pairwise (fun a b => a.print < b.print)) (h : ∀ x, l[findAt l n]? = some x → x.print ≠ n) : getP l n = none := by
  refine getP_none (fun x hx he => ?_)
  obtain ⟨j, hj, e⟩ := List.getElem_of_mem hx
  have hg : l[j]? = some x := by rw [List.getElem?_eq_getElem hj, e]
  rcases Nat.lt_trichotomy j (findAt l n) with hlt | heq | hgt
  · have := findAt_below hlt hg; omega
  · exact h x (heq ▸ hg) he
  · obtain ⟨y, hy⟩ : ∃ y, l[findAt l n]? = some y := ⟨l[findAt l n]'(by omega), List.getElem?_eq_getElem _⟩
    have h1 := findAt_at hy
    have h2 := asc_get ha hy hg hgt
    omega

/-! ### Prints that are wanted, texts to send -/
def wantStep (l : List Pc) (out : List Int) (n : Int) : List Int := if hasP l n || hasI out n then out else out ++ [n]
def wantFrom (l : List Pc) (ns : List Int) : List Int := ns.foldl (wantStep l) []
def wantedOf (l : List Pc) (ns : List Int) : List Int := if storeOk l then wantFrom l ns else []
theorem wantFrom_succ {l : List Pc} {ns : List Int} {k : Nat} {x : Int} (h : ns[k]? = some x) : wantFrom l (ns.take (k + 1)) = wantStep l (wantFrom l (ns.take k)) x := foldl_succ _ _ h
theorem wantFrom_len (l : List Pc) : ∀ (ns : List Int) (out : List Int), (ns.foldl (wantStep l) out).length ≤ out.length + ns.length
  | [], out => by simp
  | n :: r, out => by
    rw [List.foldl_cons]
    have := wantFrom_len l r (wantStep l out n)
    have h2 : (wantStep l out n).length ≤ out.length + 1 := by unfold wantStep; split <;> simp
    simp only [List.length_cons]; omega
def sendStep (l : List Pc) (out : List ByteArray) (n : Int) : List ByteArray := match getP l n with | some t => out ++ [t] | none => out
def sendFrom (l : List Pc) (ns : List Int) : List ByteArray := ns.foldl (sendStep l) []
def sendTexts (l : List Pc) (ns : List Int) : List ByteArray := if storeOk l then sendFrom l ns else []
theorem sendFrom_succ {l : List Pc} {ns : List Int} {k : Nat} {x : Int} (h : ns[k]? = some x) : sendFrom l (ns.take (k + 1)) = sendStep l (sendFrom l (ns.take k)) x := foldl_succ _ _ h
theorem sendFrom_len (l : List Pc) : ∀ (ns : List Int) (out : List ByteArray), (ns.foldl (sendStep l) out).length ≤ out.length + ns.length
  | [], out => by simp
  | n :: r, out => by
    rw [List.foldl_cons]
    have := sendFrom_len l r (sendStep l out n)
    have h2 : (sendStep l out n).length ≤ out.length + 1 := by unfold sendStep; split <;> simp
    simp only [List.length_cons]; omega

end Go.Proofs.YtnaahincolooeaaGreatDoor

/- Walks: prints. -/
namespace Go.Proofs.YtnaahincolooeaaGreatDoor
open Go.RowKit

theorem printOf_off {l : List UInt8} (h : textOk l = false) : printOf l = -1 := by unfold printOf; rw [h]; rfl
theorem printOf_on {l : List UInt8} (h : textOk l = true) : printOf l = prFold l := by unfold printOf; rw [h]; rfl
theorem prFold_succ {l : List UInt8} {k : Nat} {c : UInt8} (h : l[k]? = some c) : prFold (l.take (k + 1)) = prStep (prFold (l.take k)) c := foldl_succ _ _ h

set_option maxHeartbeats 400000 in
theorem impl_PrintOf_c (s : ByteArray) (w : World) :
    Calls Tryz.prog 71 #[.string s] w fun e w' => e = .returned (.int .i64 (printOf (bs s))) ∧ w = w' := by
  cases ht : textOk (bs s)
  · have HO := hid (printOf_off ht)
    go_enter Tryz.func71, Tryz.ntmps71
    go_wp2_with (go_at_call 70; refine (impl_TextValid_c _ _).mono ?_; rw [ht]; rintro e w' ⟨rfl, rfl⟩)
    go_ret
    exact ⟨ret_i HO.out.symm, rfl⟩
  · have HO := hid (printOf_on ht)
    have h60 := textOk_len ht
    rw [bs_len] at h60
    go_enter Tryz.func71, Tryz.ntmps71
    go_wp2_with (go_at_call 70; refine (impl_TextValid_c _ _).mono ?_; rw [ht]; rintro e w' ⟨rfl, rfl⟩)
    clear ht
    go_loop [3, 4] (fun n i => ∃ (k : Nat) (x : Int), k ≤ s.size ∧ i = .int .i64 k ∧ n = .int .i64 x ∧ 0 ≤ x ∧ x ≤ 16777212 ∧ Hid (x = prFold ((bs s).take k))) (fun _ i => s.size - (intOf i).toNat)
    case atStart => exact ⟨0, 1, Nat.zero_le _, rfl, rfl, by omega, by omega, rfl⟩
    case round =>
      obtain ⟨k, x, hk, rfl, rfl, x0, x1, hx⟩ := hrel
      by_cases hlt : k < s.size
      · have hc := hid (prFold_succ (bs_get s hlt))
        have hst := prStep_in x s[k]
        have hlb : (s[k].toNat : Int) ≤ 255 := by have := s[k].toNat_lt; omega
        have HE := hid (show (x * 257 + (s[k].toNat : Int)) % 16777213 = prStep x s[k] from rfl)
        go_wp2
        go_round
        case rel => exact ⟨k + 1, prStep x s[k], by omega, by go_num, by first | rfl | (rw [HE.out]), hst.1, hst.2, by unfold Hid; rw [hc.out, ← hx.out]⟩
        case measure => simp [intOf]; omega
      · have HX := hid (show printOf (bs s) = x by rw [HO.out, hx.out, take_all (n := s.size) (by simp) (show s.size ≤ k by omega)])
        go_wp2
        go_ret
        exact ⟨ret_i HX.out.symm, rfl⟩

set_option maxHeartbeats 400000 in
theorem spec_PrintOf_c (s : ByteArray) (w : World) (hs : s.size ≤ 4611686018427387904) :
    Calls Tryz.prog 82 #[.string s] w fun e w' => e = .returned (.int .i64 (printOf (bs s))) ∧ w = w' := by
  cases ht : textOk (bs s)
  · have HO := hid (printOf_off ht)
    go_enter Tryz.func82, Tryz.ntmps82
    go_wp2_with (go_at_call 117; refine (spec_TextValid_c _ _ hs).mono ?_; rw [ht]; rintro e w' ⟨rfl, rfl⟩)
    go_ret
    exact ⟨ret_i HO.out.symm, rfl⟩
  · have HO := hid (printOf_on ht)
    have h60 := textOk_len ht
    rw [bs_len] at h60
    go_enter Tryz.func82, Tryz.ntmps82
    go_wp2_with (go_at_call 117; refine (spec_TextValid_c _ _ hs).mono ?_; rw [ht]; rintro e w' ⟨rfl, rfl⟩)
    clear ht
    go_loop [3, 4] (fun n i => ∃ (k : Nat) (x : Int), k ≤ s.size ∧ i = .int .i64 k ∧ n = .int .i64 x ∧ 0 ≤ x ∧ x ≤ 16777212 ∧ Hid (x = prFold ((bs s).take k))) (fun _ i => s.size - (intOf i).toNat)
    case atStart => exact ⟨0, 1, Nat.zero_le _, rfl, rfl, by omega, by omega, rfl⟩
    case round =>
      obtain ⟨k, x, hk, rfl, rfl, x0, x1, hx⟩ := hrel
      by_cases hlt : k < s.size
      · have hc := hid (prFold_succ (bs_get s hlt))
        have hst := prStep_in x s[k]
        have hlb : (s[k].toNat : Int) ≤ 255 := by have := s[k].toNat_lt; omega
        have HE := hid (show (257 * x + (s[k].toNat : Int)) % 16777213 = prStep x s[k] by rw [Int.mul_comm]; rfl)
        go_wp2
        go_round
        case rel => exact ⟨k + 1, prStep x s[k], by omega, by go_num, by first | rfl | (rw [HE.out]), hst.1, hst.2, by unfold Hid; rw [hc.out, ← hx.out]⟩
        case measure => simp [intOf]; omega
      · have HX := hid (show printOf (bs s) = x by rw [HO.out, hx.out, take_all (n := s.size) (by simp) (show s.size ≤ k by omega)])
        go_wp2
        go_ret
        exact ⟨ret_i HX.out.symm, rfl⟩



theorem pairs_succ {l : List Int} {k : Nat} {x : Int} (h : l[k]? = some x) : (l.take (k + 1)).foldl pair 5 = pair ((l.take k).foldl pair 5) x := foldl_succ _ _ h


theorem pairs_neg {l : List Int} : ∀ {n : Int}, pv n = true → l.all pv = true → ¬ (l.foldl pair n < 0) := by
  intro n h h'
  have := pv_iff.1 (pairs_in h h')
  omega


/-- A word's beginning. -/
def wpre (l : List UInt8) : Bool := !(l.head?.any fun c => isDig c.toNat) && l.all wordCh
theorem wpre_zero {l : List UInt8} {c : UInt8} (h : l[0]? = some c) (hs : isSm c.toNat = true) : wpre (l.take 1) = true := by
  have hd : isDig c.toNat = false := by
    have := inB_yes hs
    simp [isDig, inB]; omega
  rw [take_snoc' h]
  simp [wpre, wordCh, hs, hd]
theorem wpre_succ {l : List UInt8} {k : Nat} {c : UInt8} (h : l[k]? = some c) (hk : 0 < k) (hw : wordCh c = true) (hp : wpre (l.take k) = true) : wpre (l.take (k + 1)) = true := by
  obtain ⟨j, rfl⟩ : ∃ j, k = j + 1 := ⟨k - 1, by omega⟩
  unfold wpre at hp ⊢
  rw [all_succ wordCh h, hw]
  cases l with
  | nil => simp at h
  | cons x r => simpa using hp
theorem word_no1 {l : List UInt8} {k : Nat} {c : UInt8} (h : l[k]? = some c) (hw : wordCh c = false) : wordOk l = false := by
  unfold wordOk; rw [all_no wordCh h hw]; simp
theorem word_no2 {l : List UInt8} {c : UInt8} (h : l[0]? = some c) (hs : isSm c.toNat = false) : wordOk l = false := by
  cases hd : isDig c.toNat
  · exact word_no1 h (by simp [wordCh, hs, hd])
  · cases l with
    | nil => simp at h
    | cons x r => simp at h; subst h; simp [wordOk, hd]

set_option maxHeartbeats 400000 in
theorem spec_WordValid_c (s : ByteArray) (w : World) (hs : s.size ≤ 4611686018427387904) :
    Calls Tryz.prog 137 #[.string s] w fun e w' => e = .returned (.bool (wordOk (bs s))) ∧ w = w' := by
  go_enter Tryz.func137, Tryz.ntmps137
  go_wp2
  go_loop [3] (fun i => ∃ k : Nat, k ≤ s.size ∧ i = .int .i64 k ∧ Hid (wpre ((bs s).take k) = true)) (fun i => s.size - (intOf i).toNat)
  case atStart => exact ⟨0, Nat.zero_le _, rfl, rfl⟩
  case round =>
    obtain ⟨k, hk, rfl, hall⟩ := hrel
    by_cases hlt : k < s.size
    · have hx := hid (bs_get s hlt)
      by_cases c1 : (s[k].toNat : Int) < 97
      · by_cases hk0 : k = 0
        · subst hk0
          have HN := hid (word_no2 hx.out (show isSm s[0].toNat = false by simp [isSm, inB]; omega))
          go_wp2
          go_ret
          exact ⟨ret_b HN.out.symm, rfl⟩
        · have hkb : ((k : Int) == 0) = false := beq_eq_false_iff_ne.2 (by omega)
          by_cases c2 : (s[k].toNat : Int) < 48
          · have HN := hid (word_no1 hx.out (show wordCh s[k] = false by simp [wordCh, isSm, isDig, inB]; omega))
            go_wp2
            go_ret
            exact ⟨ret_b HN.out.symm, rfl⟩
          · by_cases c3 : 57 < (s[k].toNat : Int)
            · have HN := hid (word_no1 hx.out (show wordCh s[k] = false by simp [wordCh, isSm, isDig, inB]; omega))
              go_wp2
              go_ret
              exact ⟨ret_b HN.out.symm, rfl⟩
            · have HY := hid (wpre_succ hx.out (by omega) (show wordCh s[k] = true by simp [wordCh, isDig, inB]; omega) hall.out)
              go_wp2
              go_round
              case rel => exact ⟨k + 1, by omega, by go_num, HY.out⟩
              case measure => simp [intOf]; omega
      · by_cases c4 : 122 < (s[k].toNat : Int)
        · have hd4 : decide ((s[k].toNat : Int) ≤ 122) = false := by simp; omega
          by_cases hk0 : k = 0
          · subst hk0
            have HN := hid (word_no2 hx.out (show isSm s[0].toNat = false by simp [isSm, inB]; omega))
            go_wp2
            go_ret
            exact ⟨ret_b HN.out.symm, rfl⟩
          · have hkb : ((k : Int) == 0) = false := beq_eq_false_iff_ne.2 (by omega)
            have HN := hid (word_no1 hx.out (show wordCh s[k] = false by simp [wordCh, isSm, isDig, inB]; omega))
            go_wp2
            go_ret
            exact ⟨ret_b HN.out.symm, rfl⟩
        · have HS : isSm s[k].toNat = true := inB_iff.2 ⟨by omega, by omega⟩
          have HY : Hid (wpre ((bs s).take (k + 1)) = true) := by
            unfold Hid
            by_cases hk0 : k = 0
            · subst hk0; exact wpre_zero hx.out HS
            · exact wpre_succ hx.out (by omega) (by simp [wordCh, HS]) hall.out
          clear HS
          go_wp2
          go_round
          case rel => exact ⟨k + 1, by omega, by go_num, HY.out⟩
          case measure => simp [intOf]; omega
    · have hall' := hall.out
      rw [take_all (xs := bs s) (n := s.size) (by simp) (show s.size ≤ k by omega)] at hall'
      have HO : Hid (inB s.size 1 8 = wordOk (bs s)) := by
        unfold Hid
        simp only [wpre, Bool.and_eq_true] at hall'
        unfold wordOk
        rw [hall'.1, hall'.2, bs_len]
        simp only [inB, Bool.and_true]
        congr 1
        · simp; omega
        · simp; omega
      clear hall' hall
      go_wp2_with (go_at_call 94; refine (spec_l1In_c _ _ _ _).mono ?_; rintro e w' ⟨rfl, rfl⟩)
      go_ret
      exact ⟨ret_b HO.out, rfl⟩

end Go.Proofs.YtnaahincolooeaaGreatDoor

/- The facts that a region's slots hold beside a reader; one operation's step. -/
namespace Go.Proofs.YtnaahincolooeaaGreatDoor
open Go.RowKit

section
variable {P : Program} {o : Oper} {a : Act} {w w' : World} {K : Act → World → Prop} {Q : Exit → Act → World → Prop} {v : Value}
theorem ev_get {a : Act} {t : Tmp} {v : Value} (h : a.eval (.tmp t) = v) : a.tmps[t]?.getD undef = v := by
  rw [← h]; simp [Act.eval]
theorem iv_val (hr : (execOp a.eval o).run P w = .ok (.value v) w') (h : K (a.put o.dst v) w') : o.wp P a w K Q := by
  unfold Oper.wp; rw [hr]; exact h
theorem iv_enter {f : FuncId} {args : Array Value} (hr : (execOp a.eval o).run P w = .ok (.enter f args) w) (h : Calls P f args w fun e w' => ∃ r, e = .returned r ∧ K (a.put o.dst r) w') : o.wp P a w K Q := by
  unfold Oper.wp; rw [hr]
  refine h.mono ?_
  rintro e w2 ⟨r, rfl, hk⟩
  exact hk
end

/-- The reader has been asked at most n times more, and nothing else was written. -/
def RJ (w0 : World) (g : Nat) (l : List Int) (p n : Nat) (w : World) : Prop := ∃ p', p' ≤ p + n ∧ Reader w g l p' ∧ w0.grownBy w (some g)
theorem RJ.step {w0 w w' : World} {g p n : Nat} {l : List Int} (h : RJ w0 g l p n w) (hw : w = w') : RJ w0 g l p (n + 1) w' := by
  obtain ⟨p', h1, h2, h3⟩ := h
  subst hw
  exact ⟨p', by omega, h2, h3⟩
theorem RJ.alloc {w0 w : World} {g p n : Nat} {l : List Int} (h : RJ w0 g l p n w) (o : Obj) : RJ w0 g l p (n + 1) (w.alloc o) := by
  obtain ⟨p', h1, h2, h3⟩ := h
  exact ⟨p', by omega, h2.alloc o, gb_alloc h3 o⟩

theorem RJ.ne {w0 w : World} {g p n : Nat} {l : List Int} (h : RJ w0 g l p n w) : w.heap.size ≠ g := by
  obtain ⟨p', _, h2, _⟩ := h
  have := h2.lt
  omega

def Stable (g : Nat) (f : Value → World → Prop) : Prop := ∀ v w w', w.grownBy w' (some g) → f v w → f v w'
def isV (u : Value) : Value → World → Prop := fun v _ => v = u
def isT (B : Nat) : Value → World → Prop := fun v _ => ∃ s : ByteArray, v = .string s ∧ s.size ≤ B
def isI (lo hi : Int) : Value → World → Prop := fun v _ => ∃ x : Int, v = .int .i64 x ∧ lo ≤ x ∧ x ≤ hi
def isRow (g : Nat) (cs : Array Value) (t : TypeId) (n : Nat) : Value → World → Prop := fun v w => ∃ b, v = .slice (some ⟨b, 0, none⟩) n n ∧ b ≠ g ∧ w.heap[b]? = some (.cells cs t (0, 0))
def isAt (g : Nat) (R : Value → World → Prop) : Value → World → Prop := fun v w => ∃ b i u, v = .pointer (some ⟨b, i, none⟩) ∧ b ≠ g ∧ w.cell? ⟨b, i, none⟩ = some u ∧ R u w
theorem isV_st (g : Nat) (u : Value) : Stable g (isV u) := fun _ _ _ _ h => h
theorem isT_st (g B : Nat) : Stable g (isT B) := fun _ _ _ _ h => h
theorem isI_st (g : Nat) (lo hi : Int) : Stable g (isI lo hi) := fun _ _ _ _ h => h
theorem isRow_st (g : Nat) (cs : Array Value) (t : TypeId) (n : Nat) : Stable g (isRow g cs t n) := by
  rintro v w w' hg ⟨b, hv, hb, hh⟩
  exact ⟨b, hv, hb, (hg.block b (Array.getElem?_eq_some_iff.1 hh).1 (some_ne hb)).trans hh⟩
theorem cell_far {w w' : World} {g b i : Nat} {u : Value} (hg : w.grownBy w' (some g)) (hb : b ≠ g) (h : w.cell? ⟨b, i, none⟩ = some u) : w'.cell? ⟨b, i, none⟩ = some u := by
  unfold World.cell? at h ⊢
  cases hh : w.heap[b]? with
  | none => simp [hh] at h
  | some o =>
    have hlt := (Array.getElem?_eq_some_iff.1 hh).1
    have := (hg.block b hlt (some_ne hb)).trans hh
    simp only [hh] at h
    simp only [this]
    exact h
theorem isAt_st (g : Nat) (R : Value → World → Prop) (hR : Stable g R) : Stable g (isAt g R) := by
  rintro v w w' hg ⟨b, i, u, hv, hb, hc, hr⟩
  exact ⟨b, i, u, hv, hb, cell_far hg hb hc, hR u w w' hg hr⟩
/-- The i-th of a list of facts. -/
def fact (l : List (Value → World → Prop)) (i : Nat) : Value → World → Prop := l.getD i (fun _ _ => True)
theorem fact_st {g : Nat} {l : List (Value → World → Prop)} (h : ∀ f ∈ l, Stable g f) (i : Nat) (v : Value) (w w' : World) (hg : w.grownBy w' (some g)) (hf : fact l i v w) : fact l i v w' := by
  unfold fact at *
  rw [List.getD_eq_getElem?_getD] at *
  cases hi : l[i]? with
  | none => trivial
  | some f =>
    rw [hi] at hf
    exact h f (List.mem_of_getElem? hi) v w w' hg hf

end Go.Proofs.YtnaahincolooeaaGreatDoor

/- Walks: the text of a mark. -/
namespace Go.Proofs.YtnaahincolooeaaGreatDoor
open Go.RowKit

def digs : Nat → Nat → ByteArray → ByteArray
  | 0, _, out => out
  | f + 1, k, out => if k = 0 then out else digs f (k / 10) (⟨#[UInt8.ofNat (48 + k % 10)]⟩ ++ out)
def markT (k : Int) : ByteArray := if k ≤ 0 then ⟨#[109, 48]⟩ else ⟨#[109]⟩ ++ digs 18 k.toNat ⟨#[]⟩
theorem digs_zero : ∀ (f : Nat) (out : ByteArray), digs f 0 out = out
  | 0, _ => rfl
  | f + 1, out => by simp [digs]
theorem digs_step {f k : Nat} (h : 0 < k) (out : ByteArray) : digs (f + 1) k out = digs f (k / 10) (⟨#[UInt8.ofNat (48 + k % 10)]⟩ ++ out) := by
  rw [digs, if_neg (by omega)]
theorem digs_size : ∀ (f k : Nat) (out : ByteArray), (digs f k out).size ≤ out.size + f
  | 0, k, out => by simp [digs]
  | f + 1, k, out => by
    rw [digs]
    split
    · omega
    · have := digs_size f (k / 10) (⟨#[UInt8.ofNat (48 + k % 10)]⟩ ++ out)
      rw [ByteArray.size_append] at this
      have e : (⟨#[UInt8.ofNat (48 + k % 10)]⟩ : ByteArray).size = 1 := rfl
      omega
theorem markT_size (k : Int) : (markT k).size ≤ 20 := by
  unfold markT
  split
  · decide
  · rw [ByteArray.size_append]
    have := digs_size 18 k.toNat ⟨#[]⟩
    have e : (⟨#[109]⟩ : ByteArray).size = 1 := rfl
    have e2 : (⟨#[]⟩ : ByteArray).size = 0 := rfl
    omega



end Go.Proofs.YtnaahincolooeaaGreatDoor

/- Walks: drawn prints. -/
namespace Go.Proofs.YtnaahincolooeaaGreatDoor
open Go.RowKit

theorem ofRow {w : World} {b : Nat} {cs : Array Value} {t : TypeId} (h : w.heap[b]? = some (.cells cs t (0, 0))) (j : Nat) {v : Value} (hv : cs[j]? = some v) : w.cell? ⟨b, j, none⟩ = some v := by simp [World.cell?, h, hv]
theorem first_heap2 (w : World) (o o' : Obj) : ((w.alloc o).alloc o').heap[w.heap.size]? = some o :=
  (Below.heap_alloc (w.alloc o) o' _ (by simp)).trans (heap_alloc_new w o)

/-- A number; the reader has been asked at most k times more. -/
def Numbered (k : Nat) (w : World) (g : Nat) (l : List Int) (p : Nat) (e : Ending) (w' : World) : Prop :=
  ∃ (x : Int) (p' : Nat), e = .returned (.int .i64 x) ∧ p' ≤ p + k ∧ Reader w' g l p' ∧ w.grownBy w' (some g)

set_option maxHeartbeats 2000000 in
set_option maxRecDepth 100000 in
theorem spec_l20Print_c (g p : Nat) (l : List Int) (n : Int) (w : World) (h : Reader w g l p) (hp : p ≤ 109951162777) (hn0 : 0 ≤ n) (hn9 : n ≤ 1000000) :
    Calls Tryz.prog 107 #[.pointer (some ⟨g, 0, none⟩), .int .i64 n] w (Numbered 4 w g l p) := by
  go_enter Tryz.func107, Tryz.ntmps107
  go_wp2_with fail
  refine (spec_odd_c g p l n _ h (by omega) hn0 hn9).mono ?_
  rintro e w1 ⟨x, p1, rfl, _, hp1, r1, g1⟩
  have hgl : g < w1.heap.size := r1.lt
  have R := hid r1
  have G1 := hid g1
  clear r1 h g1
  cases x
  · go_wp2_with fail
    refine (spec_pick_c g p1 l 100 _ R.out (by omega)).mono ?_
    rintro e w2 ⟨x2, rfl, x20, x23, _, r2, g2⟩
    have x23' := x23 (by omega)
    go_wp2_with fail
    refine (spec_pick_c g _ l 256 _ r2 (by omega)).mono ?_
    rintro e w3 ⟨x3, rfl, x30, x33, _, r3, g3⟩
    have x33' := x33 (by omega)
    have R3 := hid r3
    have G3 := hid ((G1.out.trans g2).trans g3)
    have hg3 : g < w3.heap.size := r3.lt
    clear r2 r3 g2 g3 x23 x33
    have hoA : OwnI (w3.alloc (.cells #[.int .i64 x2, .int .i64 (x3 * 65000), .int .i64 16777212] 3)) w3.heap.size (.slice (some ⟨w3.heap.size, 0, none⟩) 3 3) [x2, x3 * 65000, 16777212] := Own.lit w3 (Nat.le_refl _) _ _ 3 rfl rfl rfl (by simp [maxLen])
    have r3' := (R3.out.alloc (.cells #[.int .i64 x2, .int .i64 (x3 * 65000), .int .i64 16777212] 3)).alloc (.cells #[.int .i64 0, .int .i64 0, .int .i64 0, .int .i64 1, .int .i64 1, .int .i64 1, .int .i64 2] 3)
    have hA0 := first_heap2 w3 (.cells #[.int .i64 x2, .int .i64 (x3 * 65000), .int .i64 16777212] 3) (.cells #[.int .i64 0, .int .i64 0, .int .i64 0, .int .i64 1, .int .i64 1, .int .i64 1, .int .i64 2] 3)
    have hB0 := second_heap w3 (.cells #[.int .i64 x2, .int .i64 (x3 * 65000), .int .i64 16777212] 3) (.cells #[.int .i64 0, .int .i64 0, .int .i64 0, .int .i64 1, .int .i64 1, .int .i64 1, .int .i64 2] 3)
    go_wp2_with fail
    refine (spec_pick_c g _ l 7 _ r3' (by omega)).mono ?_
    rintro e w4 ⟨x4, rfl, h40, h47, _, r4, g4⟩
    have hj := h47 (by omega)
    have hA := (g4.block w3.heap.size (by simp; omega) (some_ne (by omega))).trans hA0
    have hB := (g4.block (w3.heap.size + 1) (by simp) (some_ne (by omega))).trans hB0
    have R4 := hid r4
    have G4 := hid (G3.out.trans (gb_unalloc (gb_unalloc g4)))
    clear r4 g4 h47 r3' hA0 hB0 hoA
    obtain rfl | rfl | rfl | rfl | rfl | rfl | rfl : x4 = 0 ∨ x4 = 1 ∨ x4 = 2 ∨ x4 = 3 ∨ x4 = 4 ∨ x4 = 5 ∨ x4 = 6 := by omega
    all_goals
      have k0 := ofRow hA 0 rfl
      have k1 := ofRow hA 1 rfl
      have k2 := ofRow hA 2 rfl
      have j0 := ofRow hB 0 rfl
      have j1 := ofRow hB 1 rfl
      have j2 := ofRow hB 2 rfl
      have j3 := ofRow hB 3 rfl
      have j4 := ofRow hB 4 rfl
      have j5 := ofRow hB 5 rfl
      have j6 := ofRow hB 6 rfl
      go_wp2
      go_ret
      exact ⟨_, _, rfl, by omega, R4.out, G4.out⟩
  · go_wp2_with fail
    refine (spec_pick_c g p1 l 2 _ (R.out.alloc _) (by omega)).mono ?_
    rintro e w2 ⟨x, rfl, x0, x3, _, r2, g2⟩
    have hh := (g2.block w1.heap.size (by simp) (some_ne (by omega))).trans (heap_alloc_new w1 _)
    have x3' := x3 (by omega)
    have R2 := hid r2
    have G2 := hid (G1.out.trans (gb_unalloc g2))
    have k0 := ofRow hh 0 rfl
    have k1 := ofRow hh 1 rfl
    clear r2 g2 x3
    obtain rfl | rfl : x = 0 ∨ x = 1 := by omega
    all_goals
      go_wp2
      go_ret
      exact ⟨_, _, rfl, by omega, R2.out, G2.out⟩

end Go.Proofs.YtnaahincolooeaaGreatDoor
