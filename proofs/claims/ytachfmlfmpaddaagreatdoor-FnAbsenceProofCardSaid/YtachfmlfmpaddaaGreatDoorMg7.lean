/- Walks and plain facts, joined: PcP, Print, InvR, DrawPr, PutP, FoldP, InvV, Pcs. -/
import Derived.Test.YtachfmlfmpaddaaGreatDoorMg2
import Derived.Test.YtachfmlfmpaddaaGreatDoorMg3
import Derived.Test.YtachfmlfmpaddaaGreatDoorMg6
set_option linter.unusedVariables false
set_option linter.unusedSimpArgs false

/- Plain facts on stores of pieces. No program in sight. -/
namespace Go.Proofs.YtachfmlfmpaddaaGreatDoor
open Go.RowKit

structure Pc where
  print : Int
  text : ByteArray
def pcOk (p : Pc) : Bool := textOk (bs p.text) && decide (p.print = printOf (bs p.text))
def stFrom : Int → List Pc → Bool
  | _, [] => true
  | i, p :: r => pcOk p && decide (i < p.print) && stFrom p.print r
def storeOk (l : List Pc) : Bool := decide (l.length ≤ 40) && stFrom (-1) l
/-- The print ahead of number k; -1 for none. -/
def lastAt (i : Int) (l : List Pc) : Nat → Int
  | 0 => i
  | k + 1 => match l[k]? with | some p => p.print | none => i
theorem lastAt_zero (i : Int) (l : List Pc) : lastAt i l 0 = i := rfl
theorem lastAt_succ {i : Int} {l : List Pc} {k : Nat} {x : Pc} (h : l[k]? = some x) : lastAt i l (k + 1) = x.print := by simp [lastAt, h]
theorem stFrom_succ : ∀ (l : List Pc) (i : Int) (k : Nat) (x : Pc), l[k]? = some x → stFrom i (l.take (k + 1)) = (stFrom i (l.take k) && (pcOk x && decide (lastAt i l k < x.print)))
  | [], i, k, x, h => by simp at h
  | p :: r, i, 0, x, h => by
    simp at h; subst h
    rw [Bool.eq_iff_iff]
    simp [stFrom, lastAt]
    exact fun _ => ⟨fun h => decide_eq_true h, of_decide_eq_true⟩
  | p :: r, i, 1, x, h => by
    have := stFrom_succ r p.print 0 x (by simpa using h)
    simp only [List.take_succ_cons, stFrom]
    rw [this, Bool.eq_iff_iff]
    simp [stFrom, lastAt, and_assoc]
    exact fun _ _ _ => ⟨of_decide_eq_true, fun h => decide_eq_true h⟩
  | p :: r, i, k + 2, x, h => by
    have hg : r[k + 1]? = some x := by simpa using h
    have := stFrom_succ r p.print (k + 1) x hg
    have hk : k < r.length := by have := (List.getElem?_eq_some_iff.1 hg).1; omega
    simp only [List.take_succ_cons, stFrom] at this ⊢
    rw [this, Bool.eq_iff_iff]
    simp [lastAt, List.getElem?_eq_getElem hk, and_assoc]
theorem stFrom_get : ∀ (l : List Pc) (i : Int) (k : Nat) (x : Pc), l[k]? = some x → stFrom i l = true → pcOk x = true ∧ lastAt i l k < x.print
  | [], i, k, x, h, _ => by simp at h
  | p :: r, i, 0, x, h, h' => by
    simp at h; subst h
    simp only [stFrom, Bool.and_eq_true, decide_eq_true_eq] at h'
    exact h'.1
  | p :: r, i, 1, x, h, h' => by
    simp only [stFrom, Bool.and_eq_true, decide_eq_true_eq] at h'
    have := stFrom_get r p.print 0 x (by simpa using h) h'.2
    simpa [lastAt] using this
  | p :: r, i, k + 2, x, h, h' => by
    simp only [stFrom, Bool.and_eq_true, decide_eq_true_eq] at h'
    have hg : r[k + 1]? = some x := by simpa using h
    have := stFrom_get r p.print (k + 1) x hg h'.2
    have hk : k < r.length := by have := (List.getElem?_eq_some_iff.1 hg).1; omega
    simpa [lastAt, List.getElem?_eq_getElem hk] using this
theorem st_no {l : List Pc} {k : Nat} {x : Pc} (h : l[k]? = some x) (hv : (pcOk x && decide (lastAt (-1) l k < x.print)) = false) : storeOk l = false := by
  cases hh : stFrom (-1) l
  · simp [storeOk, hh]
  · have := stFrom_get l (-1) k x h hh
    simp [this.1, this.2] at hv
theorem st_long {l : List Pc} (h : 40 < l.length) : storeOk l = false := by simp [storeOk]; omega
theorem st_in {l : List Pc} (h : storeOk l = true) : l.length ≤ 40 ∧ stFrom (-1) l = true := by simpa [storeOk] using h
theorem pcOk_iff {p : Pc} : pcOk p = true ↔ textOk (bs p.text) = true ∧ p.print = printOf (bs p.text) := by simp [pcOk]
theorem pcOk_pv {p : Pc} (h : pcOk p = true) : 0 ≤ p.print ∧ p.print ≤ 16777212 := by
  obtain ⟨h1, h2⟩ := pcOk_iff.1 h
  have := printOf_in h1
  rw [← h2] at this
  exact pv_iff.1 this
theorem stFrom_all : ∀ {l : List Pc} {i : Int}, stFrom i l = true → ∀ x ∈ l, pcOk x = true ∧ i < x.print
  | [], _, _, _, h => by simp at h
  | p :: r, i, h, x, hx => by
    simp only [stFrom, Bool.and_eq_true, decide_eq_true_eq] at h
    rcases List.mem_cons.1 hx with rfl | hx
    · exact h.1
    · have := stFrom_all h.2 x hx
      exact ⟨this.1, by omega⟩
theorem st_all {l : List Pc} (h : storeOk l = true) {x : Pc} (hx : x ∈ l) : pcOk x = true := (stFrom_all (st_in h).2 x hx).1
theorem stFrom_asc : ∀ {l : List Pc} {i : Int}, stFrom i l = true → l.Pairwise (fun a b => a.print < b.print)
  | [], _, _ => List.Pairwise.nil
  | p :: r, i, h => by
    simp only [stFrom, Bool.and_eq_true, decide_eq_true_eq] at h
    exact List.Pairwise.cons (fun x hx => (stFrom_all h.2 x hx).2) (stFrom_asc h.2)
theorem stFrom_of : ∀ {l : List Pc} {i : Int}, (∀ x ∈ l, pcOk x = true ∧ i < x.print) → l.Pairwise (fun a b => a.print < b.print) → stFrom i l = true
  | [], _, _, _ => rfl
  | p :: r, i, h, h' => by
    obtain ⟨h1, h2⟩ := List.pairwise_cons.1 h'
    simp only [stFrom, Bool.and_eq_true, decide_eq_true_eq]
    exact ⟨h p (by simp), stFrom_of (fun x hx => ⟨(h x (by simp [hx])).1, h1 x hx⟩) h2⟩
theorem st_asc {l : List Pc} (h : storeOk l = true) : l.Pairwise (fun a b => a.print < b.print) := stFrom_asc (st_in h).2
theorem st_iff {l : List Pc} : storeOk l = true ↔ l.length ≤ 40 ∧ (∀ x ∈ l, pcOk x = true) ∧ l.Pairwise (fun a b => a.print < b.print) := by
  constructor
  · intro h; exact ⟨(st_in h).1, fun x hx => st_all h hx, st_asc h⟩
  · rintro ⟨h1, h2, h3⟩
    have := stFrom_of (i := -1) (fun x hx => ⟨h2 x hx, by have := pcOk_pv (h2 x hx); omega⟩) h3
    simp [storeOk, this, h1]
theorem textOk_size {t : ByteArray} (h : textOk (bs t) = true) : t.size ≤ 60 := by
  simp only [textOk, Bool.and_eq_true, decide_eq_true_eq] at h
  simpa using h.1
theorem st_text {l : List Pc} (h : storeOk l = true) {x : Pc} (hx : x ∈ l) : x.text.size ≤ 60 := textOk_size (pcOk_iff.1 (st_all h hx)).1
theorem asc_get {l : List Pc} (h : l.Pairwise (fun a b => a.print < b.print)) {i j : Nat} {x y : Pc} (hi : l[i]? = some x) (hj : l[j]? = some y) (hij : i < j) : x.print < y.print := by
  obtain ⟨h1, e1⟩ := List.getElem?_eq_some_iff.1 hi
  obtain ⟨h2, e2⟩ := List.getElem?_eq_some_iff.1 hj
  rw [← e1, ← e2]
  exact List.pairwise_iff_getElem.1 h i j h1 h2 hij

/-- The text with a print. -/
def getP (l : List Pc) (n : Int) : Option ByteArray := (l.find? (fun p => p.print = n)).map (·.text)
def hasP (l : List Pc) (n : Int) : Bool := (getP l n).isSome
theorem getP_at {l : List Pc} {k : Nat} {x : Pc} (h : l[k]? = some x) (ha : ∀ j y, j < k → l[j]? = some y → y.print ≠ x.print) : getP l x.print = some x.text := by
  unfold getP
  have : l.find? (fun p => p.print = x.print) = some x := by
    rw [List.find?_eq_some_iff_getElem]
    obtain ⟨h1, e1⟩ := List.getElem?_eq_some_iff.1 h
    refine ⟨by simp, k, h1, e1, fun j hj => ?_⟩
    have := ha j (l[j]'(by omega)) hj (List.getElem?_eq_getElem _)
    simpa using this
  rw [this]; rfl
theorem getP_none {l : List Pc} {n : Int} (h : ∀ x ∈ l, x.print ≠ n) : getP l n = none := by
  unfold getP
  rw [List.find?_eq_none.2 (fun x hx => by simpa using h x hx)]
  rfl
theorem getP_ex {l : List Pc} {n : Int} {t : ByteArray} (h : getP l n = some t) : ∃ (k : Nat) (x : Pc), l[k]? = some x ∧ x.print = n ∧ x.text = t := by
  unfold getP at h
  obtain ⟨x, hx, rfl⟩ := Option.map_eq_some_iff.1 h
  obtain ⟨h1, k, h2, h3, _⟩ := List.find?_eq_some_iff_getElem.1 hx
  exact ⟨k, x, by rw [List.getElem?_eq_getElem h2, h3], by simpa using h1, rfl⟩
theorem getP_text {l : List Pc} {n : Int} {t : ByteArray} (h : storeOk l = true) (hg : getP l n = some t) : textOk (bs t) = true ∧ printOf (bs t) = n ∧ t.size ≤ 60 := by
  obtain ⟨k, x, h1, rfl, rfl⟩ := getP_ex hg
  have hp := pcOk_iff.1 (st_all h (List.mem_of_getElem? h1))
  exact ⟨hp.1, hp.2.symm, textOk_size hp.1⟩
theorem hasP_iff {l : List Pc} {n : Int} : hasP l n = true ↔ ∃ x ∈ l, x.print = n := by
  constructor
  · intro h
    unfold hasP at h
    obtain ⟨t, ht⟩ := Option.isSome_iff_exists.1 h
    obtain ⟨k, x, h1, h2, _⟩ := getP_ex ht
    exact ⟨x, List.mem_of_getElem? h1, h2⟩
  · rintro ⟨x, hx, rfl⟩
    cases hh : getP l x.print
    · exfalso
      unfold getP at hh
      simp only [Option.map_eq_none_iff] at hh
      have := List.find?_eq_none.1 hh x hx
      simp at this
    · unfold hasP; rw [hh]; rfl

/-- The place of a print in an ascending row: so many have a smaller print. -/
def findAt (l : List Pc) (n : Int) : Nat := (l.takeWhile (fun p => decide (p.print < n))).length
theorem takeWhile_len {α : Type} (p : α → Bool) : ∀ (l : List α) (k : Nat), k ≤ l.length → (∀ j x, j < k → l[j]? = some x → p x = true) → (∀ x, l[k]? = some x → p x = false) → (l.takeWhile p).length = k
  | [], k, hk, _, _ => by simp at hk; simp [hk]
  | x :: r, 0, _, _, h => by
    have := h x (by simp)
    simp [this]
  | x :: r, k + 1, hk, h1, h2 => by
    have := h1 0 x (by omega) (by simp)
    rw [List.takeWhile_cons, this]
    simp only [if_true, List.length_cons]
    rw [takeWhile_len p r k (by simpa using hk) (fun j y hj hy => h1 (j + 1) y (by omega) (by simpa using hy)) (fun y hy => h2 y (by simpa using hy))]
theorem findAt_eq {l : List Pc} {n : Int} {k : Nat} (hk : k ≤ l.length) (h1 : ∀ j x, j < k → l[j]? = some x → x.print < n) (h2 : ∀ x, l[k]? = some x → n ≤ x.print) : findAt l n = k := by
  unfold findAt
  refine takeWhile_len _ l k hk (fun j x hj hx => by simpa using h1 j x hj hx) (fun x hx => ?_)
  have := h2 x hx
  simp; omega
theorem findAt_le (l : List Pc) (n : Int) : findAt l n ≤ l.length := by
  unfold findAt
  have := (List.takeWhile_prefix (l := l) (fun p => decide (p.print < n))).length_le
  exact this
theorem find_has {l : List Pc} {n : Int} {x : Pc} (ha : l.Pairwise (fun a b => a.print < b.print)) (h : l[findAt l n]? = some x) (hn : x.print = n) : getP l n = some x.text := by
  subst hn
  refine getP_at h (fun j y hj hy he => ?_)
  have := asc_get ha hy h hj
  omega
theorem findAt_below {l : List Pc} {n : Int} {j : Nat} {x : Pc} (hj : j < findAt l n) (h : l[j]? = some x) : x.print < n := by
  unfold findAt at hj
  obtain ⟨h1, e1⟩ := List.getElem?_eq_some_iff.1 h
  have hm : (l.takeWhile (fun p => decide (p.print < n)))[j]? = some x := by
    have hp := List.takeWhile_prefix (l := l) (fun p => decide (p.print < n))
    obtain ⟨t, ht⟩ := hp
    have : ((l.takeWhile (fun p => decide (p.print < n))) ++ t)[j]? = some x := by rw [ht]; exact h
    rwa [List.getElem?_append_left hj] at this
  have := List.mem_of_getElem? hm
  have hall := List.all_takeWhile (p := fun p : Pc => decide (p.print < n)) (l := l)
  have := List.all_eq_true.1 hall x this
  simpa using this
theorem findAt_at {l : List Pc} {n : Int} {x : Pc} (h : l[findAt l n]? = some x) : n ≤ x.print := by
  have : ∀ (l : List Pc), l[findAt l n]? = some x → ¬ x.print < n := by
    intro l
    induction l with
    | nil => intro h; simp at h
    | cons p r ih =>
      intro h
      unfold findAt at h
      rw [List.takeWhile_cons] at h
      by_cases hp : p.print < n
      · rw [if_pos (by simpa using hp)] at h
        exact ih (by simpa [findAt] using h)
      · rw [if_neg (by simpa using hp)] at h
        simp at h; subst h; exact hp
  have := this l h
  omega
theorem find_no {l : List Pc} {n : Int} (ha : l.Pairwise (fun a b => a.print < b.print)) (h : ∀ x, l[findAt l n]? = some x → x.print ≠ n) : getP l n = none := by
  refine getP_none (fun x hx he => ?_)
  obtain ⟨j, hj, e⟩ := List.getElem_of_mem hx
  have hg : l[j]? = some x := by rw [List.getElem?_eq_getElem hj, e]
  rcases Nat.lt_trichotomy j (findAt l n) with hlt | heq | hgt
  · have := findAt_below hlt hg; omega
  · exact h x (heq ▸ hg) he
  · obtain ⟨y, hy⟩ : ∃ y, l[findAt l n]? = some y := ⟨l[findAt l n]'(by omega), List.getElem?_eq_getElem _⟩
    have h1 := findAt_at hy
    have h2 := asc_get ha hy hg hgt
    omega

/-! ### Prints that are wanted, texts to send -/
end Go.Proofs.YtachfmlfmpaddaaGreatDoor

/- Walks: prints. -/
namespace Go.Proofs.YtachfmlfmpaddaaGreatDoor
open Go.RowKit

theorem printOf_off {l : List UInt8} (h : textOk l = false) : printOf l = -1 := by unfold printOf; rw [h]; rfl
theorem printOf_on {l : List UInt8} (h : textOk l = true) : printOf l = prFold l := by unfold printOf; rw [h]; rfl
theorem prFold_succ {l : List UInt8} {k : Nat} {c : UInt8} (h : l[k]? = some c) : prFold (l.take (k + 1)) = prStep (prFold (l.take k)) c := foldl_succ _ _ h

set_option maxHeartbeats 400000 in
theorem impl_PrintOf_c (s : ByteArray) (w : World) :
    Calls Tryz.prog 109 #[.string s] w fun e w' => e = .returned (.int .i64 (printOf (bs s))) ∧ w = w' := by
  cases ht : textOk (bs s)
  · have HO := hid (printOf_off ht)
    go_enter Tryz.func109, Tryz.ntmps109
    go_wp2_with (go_at_call 108; refine (impl_TextValid_c _ _).mono ?_; rw [ht]; rintro e w' ⟨rfl, rfl⟩)
    go_ret
    exact ⟨ret_i HO.out.symm, rfl⟩
  · have HO := hid (printOf_on ht)
    have h60 := textOk_len ht
    rw [bs_len] at h60
    go_enter Tryz.func109, Tryz.ntmps109
    go_wp2_with (go_at_call 108; refine (impl_TextValid_c _ _).mono ?_; rw [ht]; rintro e w' ⟨rfl, rfl⟩)
    clear ht
    go_loop [3, 4] (fun n i => ∃ (k : Nat) (x : Int), k ≤ s.size ∧ i = .int .i64 k ∧ n = .int .i64 x ∧ 0 ≤ x ∧ x ≤ 16777212 ∧ Hid (x = prFold ((bs s).take k))) (fun _ i => s.size - (intOf i).toNat)
    case atStart => exact ⟨0, 1, Nat.zero_le _, rfl, rfl, by omega, by omega, rfl⟩
    case round =>
      obtain ⟨k, x, hk, rfl, rfl, x0, x1, hx⟩ := hrel
      by_cases hlt : k < s.size
      · have hc := hid (prFold_succ (bs_get s hlt))
        have hst := prStep_in x s[k]
        have hlb : (s[k].toNat : Int) ≤ 255 := by have := s[k].toNat_lt; omega
        have HE := hid (show (x * 257 + (s[k].toNat : Int)) % 16777213 = prStep x s[k] from rfl)
        go_wp2
        go_round
        case rel => exact ⟨k + 1, prStep x s[k], by omega, by go_num, by first | rfl | (rw [HE.out]), hst.1, hst.2, by unfold Hid; rw [hc.out, ← hx.out]⟩
        case measure => simp [intOf]; omega
      · have HX := hid (show printOf (bs s) = x by rw [HO.out, hx.out, take_all (n := s.size) (by simp) (show s.size ≤ k by omega)])
        go_wp2
        go_ret
        exact ⟨ret_i HX.out.symm, rfl⟩

set_option maxHeartbeats 400000 in
theorem spec_PrintOf_c (s : ByteArray) (w : World) (hs : s.size ≤ 4611686018427387904) :
    Calls Tryz.prog 105 #[.string s] w fun e w' => e = .returned (.int .i64 (printOf (bs s))) ∧ w = w' := by
  cases ht : textOk (bs s)
  · have HO := hid (printOf_off ht)
    go_enter Tryz.func105, Tryz.ntmps105
    go_wp2_with (go_at_call 133; refine (spec_TextValid_c _ _ hs).mono ?_; rw [ht]; rintro e w' ⟨rfl, rfl⟩)
    go_ret
    exact ⟨ret_i HO.out.symm, rfl⟩
  · have HO := hid (printOf_on ht)
    have h60 := textOk_len ht
    rw [bs_len] at h60
    go_enter Tryz.func105, Tryz.ntmps105
    go_wp2_with (go_at_call 133; refine (spec_TextValid_c _ _ hs).mono ?_; rw [ht]; rintro e w' ⟨rfl, rfl⟩)
    clear ht
    go_loop [3, 4] (fun n i => ∃ (k : Nat) (x : Int), k ≤ s.size ∧ i = .int .i64 k ∧ n = .int .i64 x ∧ 0 ≤ x ∧ x ≤ 16777212 ∧ Hid (x = prFold ((bs s).take k))) (fun _ i => s.size - (intOf i).toNat)
    case atStart => exact ⟨0, 1, Nat.zero_le _, rfl, rfl, by omega, by omega, rfl⟩
    case round =>
      obtain ⟨k, x, hk, rfl, rfl, x0, x1, hx⟩ := hrel
      by_cases hlt : k < s.size
      · have hc := hid (prFold_succ (bs_get s hlt))
        have hst := prStep_in x s[k]
        have hlb : (s[k].toNat : Int) ≤ 255 := by have := s[k].toNat_lt; omega
        have HE := hid (show (257 * x + (s[k].toNat : Int)) % 16777213 = prStep x s[k] by rw [Int.mul_comm]; rfl)
        go_wp2
        go_round
        case rel => exact ⟨k + 1, prStep x s[k], by omega, by go_num, by first | rfl | (rw [HE.out]), hst.1, hst.2, by unfold Hid; rw [hc.out, ← hx.out]⟩
        case measure => simp [intOf]; omega
      · have HX := hid (show printOf (bs s) = x by rw [HO.out, hx.out, take_all (n := s.size) (by simp) (show s.size ≤ k by omega)])
        go_wp2
        go_ret
        exact ⟨ret_i HX.out.symm, rfl⟩



/-- A word's beginning. -/
def wpre (l : List UInt8) : Bool := !(l.head?.any fun c => isDig c.toNat) && l.all wordCh
theorem wpre_zero {l : List UInt8} {c : UInt8} (h : l[0]? = some c) (hs : isSm c.toNat = true) : wpre (l.take 1) = true := by
  have hd : isDig c.toNat = false := by
    have := inB_yes hs
    simp [isDig, inB]; omega
  rw [take_snoc' h]
  simp [wpre, wordCh, hs, hd]
theorem wpre_succ {l : List UInt8} {k : Nat} {c : UInt8} (h : l[k]? = some c) (hk : 0 < k) (hw : wordCh c = true) (hp : wpre (l.take k) = true) : wpre (l.take (k + 1)) = true := by
  obtain ⟨j, rfl⟩ : ∃ j, k = j + 1 := ⟨k - 1, by omega⟩
  unfold wpre at hp ⊢
  rw [all_succ wordCh h, hw]
  cases l with
  | nil => simp at h
  | cons x r => simpa using hp
theorem word_no1 {l : List UInt8} {k : Nat} {c : UInt8} (h : l[k]? = some c) (hw : wordCh c = false) : wordOk l = false := by
  unfold wordOk; rw [all_no wordCh h hw]; simp
theorem word_no2 {l : List UInt8} {c : UInt8} (h : l[0]? = some c) (hs : isSm c.toNat = false) : wordOk l = false := by
  cases hd : isDig c.toNat
  · exact word_no1 h (by simp [wordCh, hs, hd])
  · cases l with
    | nil => simp at h
    | cons x r => simp at h; subst h; simp [wordOk, hd]

set_option maxHeartbeats 400000 in
theorem spec_WordValid_c (s : ByteArray) (w : World) (hs : s.size ≤ 4611686018427387904) :
    Calls Tryz.prog 134 #[.string s] w fun e w' => e = .returned (.bool (wordOk (bs s))) ∧ w = w' := by
  go_enter Tryz.func134, Tryz.ntmps134
  go_wp2
  go_loop [3] (fun i => ∃ k : Nat, k ≤ s.size ∧ i = .int .i64 k ∧ Hid (wpre ((bs s).take k) = true)) (fun i => s.size - (intOf i).toNat)
  case atStart => exact ⟨0, Nat.zero_le _, rfl, rfl⟩
  case round =>
    obtain ⟨k, hk, rfl, hall⟩ := hrel
    by_cases hlt : k < s.size
    · have hx := hid (bs_get s hlt)
      by_cases c1 : (s[k].toNat : Int) < 97
      · by_cases hk0 : k = 0
        · subst hk0
          have HN := hid (word_no2 hx.out (show isSm s[0].toNat = false by simp [isSm, inB]; omega))
          go_wp2
          go_ret
          exact ⟨ret_b HN.out.symm, rfl⟩
        · have hkb : ((k : Int) == 0) = false := beq_eq_false_iff_ne.2 (by omega)
          by_cases c2 : (s[k].toNat : Int) < 48
          · have HN := hid (word_no1 hx.out (show wordCh s[k] = false by simp [wordCh, isSm, isDig, inB]; omega))
            go_wp2
            go_ret
            exact ⟨ret_b HN.out.symm, rfl⟩
          · by_cases c3 : 57 < (s[k].toNat : Int)
            · have HN := hid (word_no1 hx.out (show wordCh s[k] = false by simp [wordCh, isSm, isDig, inB]; omega))
              go_wp2
              go_ret
              exact ⟨ret_b HN.out.symm, rfl⟩
            · have HY := hid (wpre_succ hx.out (by omega) (show wordCh s[k] = true by simp [wordCh, isDig, inB]; omega) hall.out)
              go_wp2
              go_round
              case rel => exact ⟨k + 1, by omega, by go_num, HY.out⟩
              case measure => simp [intOf]; omega
      · by_cases c4 : 122 < (s[k].toNat : Int)
        · have hd4 : decide ((s[k].toNat : Int) ≤ 122) = false := by simp; omega
          by_cases hk0 : k = 0
          · subst hk0
            have HN := hid (word_no2 hx.out (show isSm s[0].toNat = false by simp [isSm, inB]; omega))
            go_wp2
            go_ret
            exact ⟨ret_b HN.out.symm, rfl⟩
          · have hkb : ((k : Int) == 0) = false := beq_eq_false_iff_ne.2 (by omega)
            have HN := hid (word_no1 hx.out (show wordCh s[k] = false by simp [wordCh, isSm, isDig, inB]; omega))
            go_wp2
            go_ret
            exact ⟨ret_b HN.out.symm, rfl⟩
        · have HS : isSm s[k].toNat = true := inB_iff.2 ⟨by omega, by omega⟩
          have HY : Hid (wpre ((bs s).take (k + 1)) = true) := by
            unfold Hid
            by_cases hk0 : k = 0
            · subst hk0; exact wpre_zero hx.out HS
            · exact wpre_succ hx.out (by omega) (by simp [wordCh, HS]) hall.out
          clear HS
          go_wp2
          go_round
          case rel => exact ⟨k + 1, by omega, by go_num, HY.out⟩
          case measure => simp [intOf]; omega
    · have hall' := hall.out
      rw [take_all (xs := bs s) (n := s.size) (by simp) (show s.size ≤ k by omega)] at hall'
      have HO : Hid (inB s.size 1 8 = wordOk (bs s)) := by
        unfold Hid
        simp only [wpre, Bool.and_eq_true] at hall'
        unfold wordOk
        rw [hall'.1, hall'.2, bs_len]
        simp only [inB, Bool.and_true]
        congr 1
        · simp; omega
        · simp; omega
      clear hall' hall
      go_wp2_with (go_at_call 135; refine (spec_l1In_c _ _ _ _).mono ?_; rintro e w' ⟨rfl, rfl⟩)
      go_ret
      exact ⟨ret_b HO.out, rfl⟩

end Go.Proofs.YtachfmlfmpaddaaGreatDoor

/- The facts that a region's slots hold beside a reader; one operation's step. -/
namespace Go.Proofs.YtachfmlfmpaddaaGreatDoor
open Go.RowKit

section
variable {P : Program} {o : Oper} {a : Act} {w w' : World} {K : Act → World → Prop} {Q : Exit → Act → World → Prop} {v : Value}
theorem ev_get {a : Act} {t : Tmp} {v : Value} (h : a.eval (.tmp t) = v) : a.tmps[t]?.getD undef = v := by
  rw [← h]; simp [Act.eval]
theorem iv_val (hr : (execOp a.eval o).run P w = .ok (.value v) w') (h : K (a.put o.dst v) w') : o.wp P a w K Q := by
  unfold Oper.wp; rw [hr]; exact h
theorem iv_enter {f : FuncId} {args : Array Value} (hr : (execOp a.eval o).run P w = .ok (.enter f args) w) (h : Calls P f args w fun e w' => ∃ r, e = .returned r ∧ K (a.put o.dst r) w') : o.wp P a w K Q := by
  unfold Oper.wp; rw [hr]
  refine h.mono ?_
  rintro e w2 ⟨r, rfl, hk⟩
  exact hk
end

/-- The reader has been asked at most n times more, and nothing else was written. -/
def RJ (w0 : World) (g : Nat) (l : List Int) (p n : Nat) (w : World) : Prop := ∃ p', p' ≤ p + n ∧ Reader w g l p' ∧ w0.grownBy w (some g)
theorem RJ.step {w0 w w' : World} {g p n : Nat} {l : List Int} (h : RJ w0 g l p n w) (hw : w = w') : RJ w0 g l p (n + 1) w' := by
  obtain ⟨p', h1, h2, h3⟩ := h
  subst hw
  exact ⟨p', by omega, h2, h3⟩
theorem RJ.alloc {w0 w : World} {g p n : Nat} {l : List Int} (h : RJ w0 g l p n w) (o : Obj) : RJ w0 g l p (n + 1) (w.alloc o) := by
  obtain ⟨p', h1, h2, h3⟩ := h
  exact ⟨p', by omega, h2.alloc o, gb_alloc h3 o⟩

def isV (u : Value) : Value → World → Prop := fun v _ => v = u
/-- The i-th of a list of facts. -/
def fact (l : List (Value → World → Prop)) (i : Nat) : Value → World → Prop := l.getD i (fun _ _ => True)
end Go.Proofs.YtachfmlfmpaddaaGreatDoor

/- Walks: drawn prints. -/
namespace Go.Proofs.YtachfmlfmpaddaaGreatDoor
open Go.RowKit

theorem ofRow {w : World} {b : Nat} {cs : Array Value} {t : TypeId} (h : w.heap[b]? = some (.cells cs t (0, 0))) (j : Nat) {v : Value} (hv : cs[j]? = some v) : w.cell? ⟨b, j, none⟩ = some v := by simp [World.cell?, h, hv]
theorem first_heap2 (w : World) (o o' : Obj) : ((w.alloc o).alloc o').heap[w.heap.size]? = some o :=
  (Below.heap_alloc (w.alloc o) o' _ (by simp)).trans (heap_alloc_new w o)

/-- A number; the reader has been asked at most k times more. -/
def Numbered (k : Nat) (w : World) (g : Nat) (l : List Int) (p : Nat) (e : Ending) (w' : World) : Prop :=
  ∃ (x : Int) (p' : Nat), e = .returned (.int .i64 x) ∧ p' ≤ p + k ∧ Reader w' g l p' ∧ w.grownBy w' (some g)

set_option maxHeartbeats 2000000 in
set_option maxRecDepth 100000 in
theorem spec_l20Print_c (g p : Nat) (l : List Int) (n : Int) (w : World) (h : Reader w g l p) (hp : p ≤ 109951162777) (hn0 : 0 ≤ n) (hn9 : n ≤ 1000000) :
    Calls Tryz.prog 128 #[.pointer (some ⟨g, 0, none⟩), .int .i64 n] w (Numbered 4 w g l p) := by
  go_enter Tryz.func128, Tryz.ntmps128
  go_wp2_with fail
  refine (spec_odd_c g p l n _ h (by omega) hn0 hn9).mono ?_
  rintro e w1 ⟨x, p1, rfl, _, hp1, r1, g1⟩
  have hgl : g < w1.heap.size := r1.lt
  have R := hid r1
  have G1 := hid g1
  clear r1 h g1
  cases x
  · go_wp2_with fail
    refine (spec_pick_c g p1 l 100 _ R.out (by omega)).mono ?_
    rintro e w2 ⟨x2, rfl, x20, x23, _, r2, g2⟩
    have x23' := x23 (by omega)
    go_wp2_with fail
    refine (spec_pick_c g _ l 256 _ r2 (by omega)).mono ?_
    rintro e w3 ⟨x3, rfl, x30, x33, _, r3, g3⟩
    have x33' := x33 (by omega)
    have R3 := hid r3
    have G3 := hid ((G1.out.trans g2).trans g3)
    have hg3 : g < w3.heap.size := r3.lt
    clear r2 r3 g2 g3 x23 x33
    have hoA : OwnI (w3.alloc (.cells #[.int .i64 x2, .int .i64 (x3 * 65000), .int .i64 16777212] 3)) w3.heap.size (.slice (some ⟨w3.heap.size, 0, none⟩) 3 3) [x2, x3 * 65000, 16777212] := Own.lit w3 (Nat.le_refl _) _ _ 3 rfl rfl rfl (by simp [maxLen])
    have r3' := (R3.out.alloc (.cells #[.int .i64 x2, .int .i64 (x3 * 65000), .int .i64 16777212] 3)).alloc (.cells #[.int .i64 0, .int .i64 0, .int .i64 0, .int .i64 1, .int .i64 1, .int .i64 1, .int .i64 2] 3)
    have hA0 := first_heap2 w3 (.cells #[.int .i64 x2, .int .i64 (x3 * 65000), .int .i64 16777212] 3) (.cells #[.int .i64 0, .int .i64 0, .int .i64 0, .int .i64 1, .int .i64 1, .int .i64 1, .int .i64 2] 3)
    have hB0 := second_heap w3 (.cells #[.int .i64 x2, .int .i64 (x3 * 65000), .int .i64 16777212] 3) (.cells #[.int .i64 0, .int .i64 0, .int .i64 0, .int .i64 1, .int .i64 1, .int .i64 1, .int .i64 2] 3)
    go_wp2_with fail
    refine (spec_pick_c g _ l 7 _ r3' (by omega)).mono ?_
    rintro e w4 ⟨x4, rfl, h40, h47, _, r4, g4⟩
    have hj := h47 (by omega)
    have hA := (g4.block w3.heap.size (by simp; omega) (some_ne (by omega))).trans hA0
    have hB := (g4.block (w3.heap.size + 1) (by simp) (some_ne (by omega))).trans hB0
    have R4 := hid r4
    have G4 := hid (G3.out.trans (gb_unalloc (gb_unalloc g4)))
    clear r4 g4 h47 r3' hA0 hB0 hoA
    obtain rfl | rfl | rfl | rfl | rfl | rfl | rfl : x4 = 0 ∨ x4 = 1 ∨ x4 = 2 ∨ x4 = 3 ∨ x4 = 4 ∨ x4 = 5 ∨ x4 = 6 := by omega
    all_goals
      have k0 := ofRow hA 0 rfl
      have k1 := ofRow hA 1 rfl
      have k2 := ofRow hA 2 rfl
      have j0 := ofRow hB 0 rfl
      have j1 := ofRow hB 1 rfl
      have j2 := ofRow hB 2 rfl
      have j3 := ofRow hB 3 rfl
      have j4 := ofRow hB 4 rfl
      have j5 := ofRow hB 5 rfl
      have j6 := ofRow hB 6 rfl
      go_wp2
      go_ret
      exact ⟨_, _, rfl, by omega, R4.out, G4.out⟩
  · go_wp2_with fail
    refine (spec_pick_c g p1 l 2 _ (R.out.alloc _) (by omega)).mono ?_
    rintro e w2 ⟨x, rfl, x0, x3, _, r2, g2⟩
    have hh := (g2.block w1.heap.size (by simp) (some_ne (by omega))).trans (heap_alloc_new w1 _)
    have x3' := x3 (by omega)
    have R2 := hid r2
    have G2 := hid (G1.out.trans (gb_unalloc g2))
    have k0 := ofRow hh 0 rfl
    have k1 := ofRow hh 1 rfl
    clear r2 g2 x3
    obtain rfl | rfl : x = 0 ∨ x = 1 := by omega
    all_goals
      go_wp2
      go_ret
      exact ⟨_, _, rfl, by omega, R2.out, G2.out⟩

end Go.Proofs.YtachfmlfmpaddaaGreatDoor

/- Plain facts on texts that are put into stores. No program in sight. -/
namespace Go.Proofs.YtachfmlfmpaddaaGreatDoor
open Go.RowKit

theorem getP_no {l : List Pc} {n : Int} (h : getP l n = none) : ∀ x ∈ l, x.print ≠ n := by
  intro x hx he
  have : hasP l n = true := hasP_iff.2 ⟨x, hx, he⟩
  unfold hasP at this
  rw [h] at this
  cases this
theorem st_find {l : List Pc} {n : Int} (h : storeOk l = true) (hh : hasP l n = true) : ∃ x : Pc, l[findAt l n]? = some x ∧ getP l n = some x.text ∧ x.print = n := by
  cases hg : l[findAt l n]? with
  | none =>
    exfalso
    have := find_no (l := l) (n := n) (st_asc h) (fun z hz => by rw [hg] at hz; cases hz)
    unfold hasP at hh
    rw [this] at hh
    cases hh
  | some z =>
    by_cases hz : z.print = n
    · exact ⟨z, rfl, find_has (st_asc h) hg hz, hz⟩
    · exfalso
      have := find_no (l := l) (n := n) (st_asc h) (fun z' hz' => by rw [hg] at hz'; rw [← Option.some.inj hz']; exact hz)
      unfold hasP at hh
      rw [this] at hh
      cases hh

/-- A row with a piece in its place. -/
def insP (l : List Pc) (p : Int) (t : ByteArray) : List Pc := l.take (findAt l p) ++ ⟨p, t⟩ :: l.drop (findAt l p)
theorem insP_len (l : List Pc) (p : Int) (t : ByteArray) : (insP l p t).length = l.length + 1 := by
  have := findAt_le l p
  simp [insP]; omega
theorem insP_mem {l : List Pc} {p : Int} {t : ByteArray} {x : Pc} : x ∈ insP l p t ↔ x ∈ l ∨ x = ⟨p, t⟩ := by
  unfold insP
  rw [List.mem_append, List.mem_cons]
  constructor
  · rintro (h | h | h)
    · exact .inl (List.mem_of_mem_take h)
    · exact .inr h
    · exact .inl (List.mem_of_mem_drop h)
  · rintro (h | h)
    · rw [← List.take_append_drop (findAt l p) l, List.mem_append] at h
      rcases h with h | h
      · exact .inl h
      · exact .inr (.inr h)
    · exact .inr (.inl h)
theorem insP_asc {l : List Pc} {p : Int} {t : ByteArray} (ha : l.Pairwise (fun a b => a.print < b.print)) (hn : getP l p = none) : (insP l p t).Pairwise (fun a b => a.print < b.print) := by
  have h1 : ∀ a ∈ l.take (findAt l p), a.print < p := by
    intro a hm
    obtain ⟨j, hj, e⟩ := List.getElem_of_mem hm
    have hj' : j < findAt l p := by simp at hj; omega
    have hg : l[j]? = some a := by
      rw [← List.getElem?_take_of_lt hj', List.getElem?_eq_getElem hj, e]
    exact findAt_below hj' hg
  have h2 : ∀ b ∈ l.drop (findAt l p), p < b.print := by
    intro b hm
    obtain ⟨j, hj, e⟩ := List.getElem_of_mem hm
    have hg : l[findAt l p + j]? = some b := by rw [← List.getElem?_drop, List.getElem?_eq_getElem hj, e]
    obtain ⟨y, hy⟩ : ∃ y, l[findAt l p]? = some y := ⟨l[findAt l p]'(by have := (List.getElem?_eq_some_iff.1 hg).1; omega), List.getElem?_eq_getElem _⟩
    have h3 := findAt_at hy
    have h4 := getP_no hn b (List.mem_of_getElem? hg)
    rcases Nat.eq_zero_or_pos j with h0 | h0
    · subst h0
      rw [Nat.add_zero, hy] at hg
      have := Option.some.inj hg
      subst this
      omega
    · have := asc_get ha hy hg (by omega)
      omega
  unfold insP
  rw [List.pairwise_append]
  refine ⟨ha.sublist (List.take_sublist _ _), List.Pairwise.cons h2 (ha.sublist (List.drop_sublist _ _)), ?_⟩
  intro a hma b hmb
  rcases List.mem_cons.1 hmb with rfl | hmb
  · exact h1 a hma
  · have := h1 a hma; have := h2 b hmb; omega

/-- A store behind a put text, the print, and whether it was put. -/
def putS (l : List Pc) (t : ByteArray) : List Pc × Int × Bool :=
  if storeOk l then
    if textOk (bs t) then
      match getP l (printOf (bs t)) with
      | some u => if u = t then (l, printOf (bs t), true) else (l, -1, false)
      | none => if l.length = 40 then (l, -1, false) else (insP l (printOf (bs t)) t, printOf (bs t), true)
    else (l, -1, false)
  else ([], -1, false)
theorem put_off {l : List Pc} {t : ByteArray} (h : storeOk l = false) : putS l t = ([], -1, false) := by unfold putS; rw [h]; rfl
theorem put_bad {l : List Pc} {t : ByteArray} (h : storeOk l = true) (ht : textOk (bs t) = false) : putS l t = (l, -1, false) := by unfold putS; rw [h, ht]; rfl
theorem put_there {l : List Pc} {t : ByteArray} (h : storeOk l = true) (ht : textOk (bs t) = true) (hg : getP l (printOf (bs t)) = some t) : putS l t = (l, printOf (bs t), true) := by unfold putS; rw [h, ht, hg]; simp
theorem put_other {l : List Pc} {t u : ByteArray} (h : storeOk l = true) (ht : textOk (bs t) = true) (hg : getP l (printOf (bs t)) = some u) (hu : u ≠ t) : putS l t = (l, -1, false) := by unfold putS; rw [h, ht, hg]; simp [hu]
theorem put_full {l : List Pc} {t : ByteArray} (h : storeOk l = true) (ht : textOk (bs t) = true) (hg : getP l (printOf (bs t)) = none) (hl : l.length = 40) : putS l t = (l, -1, false) := by unfold putS; rw [h, ht, hg]; simp [hl]
theorem put_new {l : List Pc} {t : ByteArray} (h : storeOk l = true) (ht : textOk (bs t) = true) (hg : getP l (printOf (bs t)) = none) (hl : l.length ≠ 40) : putS l t = (insP l (printOf (bs t)) t, printOf (bs t), true) := by unfold putS; rw [h, ht, hg]; simp [hl]
theorem put_cases {l : List Pc} {t : ByteArray} (h : storeOk l = true) :
    (putS l t = (l, -1, false)) ∨ (textOk (bs t) = true ∧ getP l (printOf (bs t)) = some t ∧ putS l t = (l, printOf (bs t), true)) ∨
    (textOk (bs t) = true ∧ getP l (printOf (bs t)) = none ∧ l.length < 40 ∧ putS l t = (insP l (printOf (bs t)) t, printOf (bs t), true)) := by
  cases ht : textOk (bs t)
  · exact .inl (put_bad h ht)
  · cases hg : getP l (printOf (bs t)) with
    | some u =>
      by_cases hu : u = t
      · subst hu; exact .inr (.inl ⟨rfl, rfl, put_there h ht hg⟩)
      · exact .inl (put_other h ht hg hu)
    | none =>
      by_cases hl : l.length = 40
      · exact .inl (put_full h ht hg hl)
      · have := (st_in h).1
        exact .inr (.inr ⟨rfl, rfl, by omega, put_new h ht hg hl⟩)
theorem put_ok {l : List Pc} {t : ByteArray} (h : storeOk l = true) : storeOk (putS l t).1 = true := by
  rcases put_cases (t := t) h with e | ⟨_, _, e⟩ | ⟨ht, hg, hl, e⟩
  · rw [e]; exact h
  · rw [e]; exact h
  · rw [e]
    refine st_iff.2 ⟨by rw [insP_len]; omega, fun x hx => ?_, insP_asc (st_asc h) hg⟩
    rcases insP_mem.1 hx with hx | rfl
    · exact st_all h hx
    · exact pcOk_iff.2 ⟨ht, rfl⟩
end Go.Proofs.YtachfmlfmpaddaaGreatDoor

/- Plain facts on folders: digits in the base 16, entries, their texts, and what reads them. No program in sight. -/
namespace Go.Proofs.YtachfmlfmpaddaaGreatDoor
open Go.RowKit

def hexD (d : Nat) : UInt8 := UInt8.ofNat (if d < 10 then 48 + d else 87 + d)
def hexF : Nat → Nat → List UInt8
  | 0, _ => []
  | f + 1, n => if n < 16 then [hexD n] else hexF f (n / 16) ++ [hexD (n % 16)]
def hexT (n : Int) : List UInt8 := if pv n then hexF 6 n.toNat else []
def hexV (c : UInt8) : Option Nat := if 48 ≤ c.toNat ∧ c.toNat ≤ 57 then some (c.toNat - 48) else if 97 ≤ c.toNat ∧ c.toNat ≤ 102 then some (c.toNat - 87) else none
def hexR : Nat → List UInt8 → Option Nat
  | n, [] => some n
  | n, c :: r => match hexV c with | some d => hexR (16 * n + d) r | none => none
def readHex (l : List UInt8) : Int :=
  if 1 ≤ l.length ∧ l.length ≤ 6 then (match hexR 0 l with | some n => if hexT n = l then (n : Int) else -1 | none => -1) else -1
theorem hexD_val {d : Nat} (h : d < 16) : (hexD d).toNat = (if d < 10 then 48 + d else 87 + d) := by
  unfold hexD
  rw [UInt8.toNat_ofNat']
  split <;> omega
theorem hexV_D {d : Nat} (h : d < 16) : hexV (hexD d) = some d := by
  unfold hexV
  rw [hexD_val h]
  by_cases h1 : d < 10
  · rw [if_pos h1, if_pos (by omega)]; congr 1; omega
  · rw [if_neg h1, if_neg (by omega), if_pos (by omega)]; congr 1; omega
theorem hexR_append : ∀ (l : List UInt8) (m : Nat) (c : UInt8) (n d : Nat), hexR m l = some n → hexV c = some d → hexR m (l ++ [c]) = some (16 * n + d)
  | [], m, c, n, d, h, h' => by
    simp [hexR] at h; subst h
    simp [hexR, h']
  | x :: r, m, c, n, d, h, h' => by
    simp only [List.cons_append, hexR] at h ⊢
    cases hx : hexV x with
    | none => rw [hx] at h; simp at h
    | some y => rw [hx] at h; exact hexR_append r _ c n d h h'
theorem hexR_F : ∀ (f n : Nat), n < 16 ^ f → 0 < f → hexR 0 (hexF f n) = some n
  | 0, _, _, h => absurd h (by omega)
  | f + 1, n, h, _ => by
    rw [hexF]
    by_cases hn : n < 16
    · rw [if_pos hn]
      simp [hexR, hexV_D hn]
    · rw [if_neg hn]
      have hf : 0 < f := by
        rcases Nat.eq_zero_or_pos f with h0 | h0
        · subst h0; simp at h; omega
        · exact h0
      rw [hexR_append _ _ _ _ _ (hexR_F f (n / 16) (by rw [Nat.pow_succ] at h; omega) hf) (hexV_D (Nat.mod_lt _ (by omega)))]
      congr 1; omega
theorem hexF_len : ∀ (f n : Nat), (hexF f n).length ≤ f
  | 0, _ => by simp [hexF]
  | f + 1, n => by
    rw [hexF]
    split
    · simp
    · have := hexF_len f (n / 16); simp; omega
theorem hexF_pos (f n : Nat) : 1 ≤ (hexF (f + 1) n).length := by
  rw [hexF]
  split <;> simp
theorem hexF_ch : ∀ (f n : Nat), ∀ c ∈ hexF f n, (hexV c).isSome = true
  | 0, _ => by simp [hexF]
  | f + 1, n => by
    intro c hc
    rw [hexF] at hc
    split at hc
    · simp at hc; subst hc; rw [hexV_D (by assumption)]; rfl
    · rcases List.mem_append.1 hc with h | h
      · exact hexF_ch f _ c h
      · simp at h; subst h; rw [hexV_D (Nat.mod_lt _ (by omega))]; rfl
theorem hexT_on {n : Int} (h : pv n = true) : hexT n = hexF 6 n.toNat := by unfold hexT; rw [if_pos h]
theorem hexT_off {n : Int} (h : pv n = false) : hexT n = [] := by unfold hexT; rw [h]; rfl
theorem hexT_len (n : Int) : (hexT n).length ≤ 6 := by
  unfold hexT
  split
  · exact hexF_len _ _
  · simp
theorem hexT_ch {n : Int} {c : UInt8} (h : c ∈ hexT n) : (hexV c).isSome = true := by
  unfold hexT at h
  split at h
  · exact hexF_ch _ _ c h
  · simp at h
theorem hexR_T {n : Int} (h : pv n = true) : hexR 0 (hexT n) = some n.toNat := by
  rw [hexT_on h]
  have := pv_iff.1 h
  exact hexR_F 6 _ (by omega) (by omega)
theorem readHex_T {n : Int} (h : pv n = true) : readHex (hexT n) = n := by
  unfold readHex
  have h1 : 1 ≤ (hexT n).length := by rw [hexT_on h]; exact hexF_pos 5 _
  have h2 := pv_iff.1 h
  have h3 : ((n.toNat : Nat) : Int) = n := by omega
  rw [if_pos ⟨h1, hexT_len n⟩, hexR_T h]
  simp only [h3, if_true]
theorem hexT_inj {a b : Int} (ha : pv a = true) (hb : pv b = true) (h : hexT a = hexT b) : a = b := by
  rw [← readHex_T ha, h, readHex_T hb]

/-! ### Entries -/
structure Ent where
  name : ByteArray
  print : Int
def entOk (e : Ent) : Bool := wordOk (bs e.name) && pv e.print
def ltN (a b : ByteArray) : Bool := Go.Op.bytesLess (bs a) (bs b)
/-- Valid and ascending behind a name. -/
def entsFrom : Option ByteArray → List Ent → Bool
  | _, [] => true
  | p, e :: r => entOk e && (match p with | some b => ltN b e.name | none => true) && entsFrom (some e.name) r
def entsOk (l : List Ent) : Bool := decide (l.length ≤ 3) && entsFrom none l
def entText (e : Ent) : List UInt8 := bs e.name ++ 61 :: (hexT e.print ++ [59])
def entsText (l : List Ent) : List UInt8 := l.flatMap entText
def folderText (l : List Ent) : List UInt8 := if entsOk l then 100 :: entsText l else []
theorem folder_on {l : List Ent} (h : entsOk l = true) : folderText l = 100 :: entsText l := by unfold folderText; rw [if_pos h]
theorem folder_off {l : List Ent} (h : entsOk l = false) : folderText l = [] := by unfold folderText; rw [h]; rfl
theorem entsFrom_all : ∀ {l : List Ent} {p : Option ByteArray}, entsFrom p l = true → ∀ e ∈ l, entOk e = true
  | [], _, _, _, h => by simp at h
  | x :: r, p, h, e, he => by
    simp only [entsFrom, Bool.and_eq_true] at h
    rcases List.mem_cons.1 he with rfl | he
    · exact h.1.1
    · exact entsFrom_all h.2 e he
theorem ents_in {l : List Ent} (h : entsOk l = true) : l.length ≤ 3 ∧ entsFrom none l = true := by simpa [entsOk] using h
theorem ents_all {l : List Ent} (h : entsOk l = true) {e : Ent} (he : e ∈ l) : entOk e = true := entsFrom_all (ents_in h).2 e he
theorem entOk_iff {e : Ent} : entOk e = true ↔ wordOk (bs e.name) = true ∧ pv e.print = true := by simp [entOk]
theorem wordOk_ch {l : List UInt8} (h : wordOk l = true) {c : UInt8} (hc : c ∈ l) : c ≠ 61 ∧ c ≠ 59 := by
  simp only [wordOk, Bool.and_eq_true, decide_eq_true_eq] at h
  have := List.all_eq_true.1 h.2 c hc
  simp only [wordCh, Bool.or_eq_true, isSm, isDig] at this
  constructor <;> rintro rfl <;> revert this <;> decide
theorem hex_ch {n : Int} {c : UInt8} (hc : c ∈ hexT n) : c ≠ 61 ∧ c ≠ 59 := by
  have := hexT_ch hc
  constructor <;> rintro rfl <;> revert this <;> decide
theorem cut_at : ∀ (a a' : List UInt8) (x : UInt8) (r r' : List UInt8), x ∉ a → x ∉ a' → a ++ x :: r = a' ++ x :: r' → a = a' ∧ r = r'
  | [], [], x, r, r', _, _, h => by simpa using h
  | [], y :: t, x, r, r', _, h2, h => by simp at h; exact absurd h.1 (by intro e; subst e; simp at h2)
  | y :: t, [], x, r, r', h1, _, h => by simp at h; exact absurd h.1.symm (by intro e; subst e; simp at h1)
  | y :: t, z :: u, x, r, r', h1, h2, h => by
    simp only [List.cons_append, List.cons.injEq] at h
    have := cut_at t u x r r' (by simp at h1; exact h1.2) (by simp at h2; exact h2.2) h.2
    exact ⟨by rw [h.1, this.1], this.2⟩
theorem entText_cut {e : Ent} (h : entOk e = true) : 61 ∉ bs e.name ∧ 59 ∉ hexT e.print := by
  obtain ⟨h1, h2⟩ := entOk_iff.1 h
  exact ⟨fun hc => (wordOk_ch h1 hc).1 rfl, fun hc => (hex_ch hc).2 rfl⟩
theorem bs_inj {a b : ByteArray} (h : bs a = bs b) : a = b := by
  cases a with | mk a => cases b with | mk b =>
  simp only [bs] at h
  rw [show a = b from Array.ext' h]
theorem ents_inj : ∀ (l l' : List Ent), (∀ e ∈ l, entOk e = true) → (∀ e ∈ l', entOk e = true) → entsText l = entsText l' → l = l'
  | [], [], _, _, _ => rfl
  | [], e :: r, _, _, h => by simp [entsText, entText] at h
  | e :: r, [], _, _, h => by simp [entsText, entText] at h
  | e :: r, e' :: r', h1, h2, h => by
    have k1 := entText_cut (h1 e (by simp))
    have k2 := entText_cut (h2 e' (by simp))
    simp only [entsText, List.flatMap_cons, entText, List.append_assoc, List.cons_append, List.nil_append] at h
    obtain ⟨e1, h⟩ := cut_at _ _ _ _ _ k1.1 k2.1 h
    obtain ⟨e2, h⟩ := cut_at _ _ _ _ _ k1.2 k2.2 h
    have e3 := hexT_inj (entOk_iff.1 (h1 e (by simp))).2 (entOk_iff.1 (h2 e' (by simp))).2 e2
    have e4 := bs_inj e1
    have := ents_inj r r' (fun x hx => h1 x (by simp [hx])) (fun x hx => h2 x (by simp [hx])) h
    obtain ⟨n, p⟩ := e
    obtain ⟨n', p'⟩ := e'
    simp only at e3 e4
    rw [e3, e4, this]

/-- The entries whose text a text is. -/
noncomputable def readFolder (l : List UInt8) : Option (List Ent) :=
  open Classical in if h : ∃ es, entsOk es = true ∧ folderText es = l then some h.choose else none
theorem readFolder_yes {es : List Ent} {l : List UInt8} (h : entsOk es = true) (hl : folderText es = l) : readFolder l = some es := by
  unfold readFolder
  have hex : ∃ es, entsOk es = true ∧ folderText es = l := ⟨es, h, hl⟩
  rw [dif_pos hex]
  obtain ⟨h1, h2⟩ := hex.choose_spec
  rw [folder_on h1] at h2
  rw [folder_on h, ← h2] at hl
  simp only [List.cons.injEq, true_and] at hl
  rw [ents_inj _ _ (fun e he => ents_all h1 he) (fun e he => ents_all h he) hl.symm]
theorem readFolder_no {l : List UInt8} (h : ∀ es, entsOk es = true → folderText es = l → False) : readFolder l = none := by
  unfold readFolder
  rw [dif_neg (fun ⟨es, h1, h2⟩ => h es h1 h2)]
theorem readFolder_some {es : List Ent} {l : List UInt8} (h : readFolder l = some es) : entsOk es = true ∧ folderText es = l := by
  unfold readFolder at h
  split at h
  · rename_i hex
    have := Option.some.inj h
    subst this
    exact hex.choose_spec
  · simp at h
/-- The entries, or none. -/
noncomputable def entsOf (l : List UInt8) : List Ent := (readFolder l).getD []

end Go.Proofs.YtachfmlfmpaddaaGreatDoor

/- A region that draws its order, whose operations each give one value that is known, while the world keeps a law. No program in sight. -/
namespace Go.Proofs.YtachfmlfmpaddaaGreatDoor
open Go.RowKit

section
variable {P : Program} {ops : Array Oper}
theorem wp_region_vals {id : Nat} {Q : Exit → Act → World → Prop} {a0 : Act} {w0 : World} (hm : P.follows .mixedOrders = true) (hp : plainB ops = true) (hback : backB ops = true) (hptr : ptrB ops = true)
    (hdst : (ops.all fun o => match o.dst with | some t => decide (t < a0.tmps.size) | none => true) = true) (hs : (ops.all fun o => o.dst.isSome) = true)
    (J : World → Prop) (L : List Value) (hJ : J w0.drew)
    (hop : ∀ (i : Nat) (o : Oper), ops[i]? = some o → ∀ (a : Act) (w : World), J w →
      (∀ t, freshB ops i t = true → a.tmps.getD t undef = a0.tmps.getD t undef) →
      (∀ e ∈ o.after, Region.binds .any e = true → slotOf2 ops e.on a = L.getD e.on undef) →
      o.wp P a w (fun a' w' => a' = a.put o.dst (L.getD i undef) ∧ J w') Q)
    (hend : ∀ (tm : Array Value) (w : World), J w → (∀ (i : Nat) (o : Oper), ops[i]? = some o → slotOf2 ops i ⟨tm, a0.defers⟩ = L.getD i undef) → Q .normal ⟨refillL ops.toList a0.tmps tm, a0.defers⟩ w) :
    (Code.region id ops true).wp P Q a0 w0 := by
  refine wp_region_inv3 hm hp hback hptr hdst (fun _ w => J w) (fun _ _ => True) (fun i v _ => v = L.getD i undef) hJ (fun i v w w' _ h => h) ?_ ?_
  · intro i o hi n a w _ hj hb hd
    refine Oper.wp_mono ?_ (hop i o hi a w hj hb hd)
    rintro a' w' ⟨h1, h2⟩
    refine ⟨_, h1, h2, trivial, ?_⟩
    have hso : o.dst.isSome = true := by
      have := Array.all_eq_true.1 hs
      obtain ⟨hlt, rfl⟩ := Array.getElem?_eq_some_iff.1 hi
      exact this i hlt
    simp [hso]
  · intro tm w hj hF
    exact hend tm w hj hF
end
end Go.Proofs.YtachfmlfmpaddaaGreatDoor

/- Rows of pieces as a walk asks for them. No program in sight. -/
namespace Go.Proofs.YtachfmlfmpaddaaGreatDoor
open Go.RowKit

abbrev encP (p : Pc) : List Value := [.int .i64 p.print, .string p.text]
abbrev Pcs := Rd encP 2
theorem Rd.pcs {w : World} {B n : Nat} {v : Value} {xs : List Pc} (h : Pcs w B v xs) (hn : xs.length = n) :
    ∃ a c, v = .slice a n c ∧ n ≤ c ∧ c ≤ 9223372036854775807 ∧
      ∀ i, i < n → ∃ (b o : Nat) (r : Int) (t : ByteArray), a = some ⟨b, o, none⟩ ∧ b < B ∧ Hid (xs[i]? = some ⟨r, t⟩) ∧ w.cell? ⟨b, o + i * 2, none⟩ = some (.int .i64 r) ∧ w.cell? ⟨b, o + i * 2 + 1, none⟩ = some (.string t) := by
  obtain ⟨a, c, hv, h1, h2, h3⟩ := Rd.openN h (fun _ => rfl) hn
  refine ⟨a, c, hv, h1, h2, fun i hi => ?_⟩
  obtain ⟨b, o, ⟨r, t⟩, ha, hb, hx, hc⟩ := h3 i hi
  exact ⟨b, o, r, t, ha, hb, hx, by simpa using hc 0 _ rfl, by simpa [Nat.add_assoc] using hc 1 _ rfl⟩
theorem flatP_len (xs : List Pc) : (xs.flatMap encP).length = xs.length * 2 := by
  induction xs with
  | nil => rfl
  | cons x r ih => rw [List.flatMap_cons, List.length_append, ih]; simp; omega
theorem two_cells_of {w : World} {g : Nat} {t : TypeId} {x y : Value} (h : w.heap[g]? = some (.cells #[x, y] t (0, 0))) :
    w.cell? ⟨g, 0, none⟩ = some x ∧ w.cell? ⟨g, 1, none⟩ = some y ∧ w.frozen? ⟨g, 0, none⟩ = false ∧ w.frozen? ⟨g, 1, none⟩ = false := by
  refine ⟨?_, ?_, frozen_of_row _ _ _ _ _ h, frozen_of_row _ _ _ _ _ h⟩ <;> simp [World.cell?, h]
end Go.Proofs.YtachfmlfmpaddaaGreatDoor
