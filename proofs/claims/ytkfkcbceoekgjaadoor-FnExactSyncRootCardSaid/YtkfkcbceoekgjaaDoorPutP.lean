/- Plain facts on texts that are put into stores. No program in sight. -/
import Derived.Test.YtkfkcbceoekgjaaDoorPcP
namespace Go.Proofs.YtkfkcbceoekgjaaDoor
open Go.RowKit

theorem getP_no {l : List Pc} {n : Int} (h : getP l n = none) : ∀ x ∈ l, x.print ≠ n := by
  intro x hx he
  have : hasP l n = true := hasP_iff.2 ⟨x, hx, he⟩
  unfold hasP at this
  rw [h] at this
  cases this
theorem st_find {l : List Pc} {n : Int} (h : storeOk l = true) (hh : hasP l n = true) : ∃ x : Pc, l[findAt l n]? = some x ∧ getP l n = some x.text ∧ x.print = n := by
  cases hg : l[findAt l n]? with
  | none =>
    exfalso
    have := find_no (l := l) (n := n) (st_asc h) (fun z hz => by rw [hg] at hz; cases hz)
    unfold hasP at hh
    rw [this] at hh
    cases hh
  | some z =>
    by_cases hz : z.print = n
    · exact ⟨z, rfl, find_has (st_asc h) hg hz, hz⟩
    · exfalso
      have := find_no (l := l) (n := n) (st_asc h) (fun z' hz' => by rw [hg] at hz'; rw [← Option.some.inj hz']; exact hz)
      unfold hasP at hh
      rw [this] at hh
      cases hh

/-- A row with a piece in its place. -/
def insP (l : List Pc) (p : Int) (t : ByteArray) : List Pc := l.take (findAt l p) ++ ⟨p, t⟩ :: l.drop (findAt l p)
theorem insP_len (l : List Pc) (p : Int) (t : ByteArray) : (insP l p t).length = l.length + 1 := by
  have := findAt_le l p
  simp [insP]; omega
theorem insP_mem {l : List Pc} {p : Int} {t : ByteArray} {x : Pc} : x ∈ insP l p t ↔ x ∈ l ∨ x = ⟨p, t⟩ := by
  unfold insP
  rw [List.mem_append, List.mem_cons]
  constructor
  · rintro (h | h | h)
    · exact .inl (List.mem_of_mem_take h)
    · exact .inr h
    · exact .inl (List.mem_of_mem_drop h)
  · rintro (h | h)
    · rw [← List.take_append_drop (findAt l p) l, List.mem_append] at h
      rcases h with h | h
      · exact .inl h
      · exact .inr (.inr h)
    · exact .inr (.inl h)
theorem insP_asc {l : List Pc} {p : Int} {t : ByteArray} (ha : l.Pairwise (fun a b => a.print < b.print)) (hn : getP l p = none) : (insP l p t).Pairwise (fun a b => a.print < b.print) := by
  have h1 : ∀ a ∈ l.take (findAt l p), a.print < p := by
    intro a hm
    obtain ⟨j, hj, e⟩ := List.getElem_of_mem hm
    have hj' : j < findAt l p := by simp at hj; omega
    have hg : l[j]? = some a := by
      rw [← List.getElem?_take_of_lt hj', List.getElem?_eq_getElem hj, e]
    exact findAt_below hj' hg
  have h2 : ∀ b ∈ l.drop (findAt l p), p < b.print := by
    intro b hm
    obtain ⟨j, hj, e⟩ := List.getElem_of_mem hm
    have hg : l[findAt l p + j]? = some b := by rw [← List.getElem?_drop, List.getElem?_eq_getElem hj, e]
    obtain ⟨y, hy⟩ : ∃ y, l[findAt l p]? = some y := ⟨l[findAt l p]'(by have := (List.getElem?_eq_some_iff.1 hg).1; omega), List.getElem?_eq_getElem _⟩
    have h3 := findAt_at hy
    have h4 := getP_no hn b (List.mem_of_getElem? hg)
    rcases Nat.eq_zero_or_pos j with h0 | h0
    · subst h0
      rw [Nat.add_zero, hy] at hg
      have := Option.some.inj hg
      subst this
      omega
    · have := asc_get ha hy hg (by omega)
      omega
  unfold insP
  rw [List.pairwise_append]
  refine ⟨ha.sublist (List.take_sublist _ _), List.Pairwise.cons h2 (ha.sublist (List.drop_sublist _ _)), ?_⟩
  intro a hma b hmb
  rcases List.mem_cons.1 hmb with rfl | hmb
  · exact h1 a hma
  · have := h1 a hma; have := h2 b hmb; omega

/-- A store behind a put text, the print, and whether it was put. -/
def putS (l : List Pc) (t : ByteArray) : List Pc × Int × Bool :=
  if storeOk l then
    if textOk (bs t) then
      match getP l (printOf (bs t)) with
      | some u => if u = t then (l, printOf (bs t), true) else (l, -1, false)
      | none => if l.length = 40 then (l, -1, false) else (insP l (printOf (bs t)) t, printOf (bs t), true)
    else (l, -1, false)
  else ([], -1, false)
theorem put_off {l : List Pc} {t : ByteArray} (h : storeOk l = false) : putS l t = ([], -1, false) := by unfold putS; rw [h]; rfl
theorem put_bad {l : List Pc} {t : ByteArray} (h : storeOk l = true) (ht : textOk (bs t) = false) : putS l t = (l, -1, false) := by unfold putS; rw [h, ht]; rfl
theorem put_there {l : List Pc} {t : ByteArray} (h : storeOk l = true) (ht : textOk (bs t) = true) (hg : getP l (printOf (bs t)) = some t) : putS l t = (l, printOf (bs t), true) := by unfold putS; rw [h, ht, hg]; simp
theorem put_other {l : List Pc} {t u : ByteArray} (h : storeOk l = true) (ht : textOk (bs t) = true) (hg : getP l (printOf (bs t)) = some u) (hu : u ≠ t) : putS l t = (l, -1, false) := by unfold putS; rw [h, ht, hg]; simp [hu]
theorem put_full {l : List Pc} {t : ByteArray} (h : storeOk l = true) (ht : textOk (bs t) = true) (hg : getP l (printOf (bs t)) = none) (hl : l.length = 40) : putS l t = (l, -1, false) := by unfold putS; rw [h, ht, hg]; simp [hl]
theorem put_new {l : List Pc} {t : ByteArray} (h : storeOk l = true) (ht : textOk (bs t) = true) (hg : getP l (printOf (bs t)) = none) (hl : l.length ≠ 40) : putS l t = (insP l (printOf (bs t)) t, printOf (bs t), true) := by unfold putS; rw [h, ht, hg]; simp [hl]
theorem put_cases {l : List Pc} {t : ByteArray} (h : storeOk l = true) :
    (putS l t = (l, -1, false)) ∨ (textOk (bs t) = true ∧ getP l (printOf (bs t)) = some t ∧ putS l t = (l, printOf (bs t), true)) ∨
    (textOk (bs t) = true ∧ getP l (printOf (bs t)) = none ∧ l.length < 40 ∧ putS l t = (insP l (printOf (bs t)) t, printOf (bs t), true)) := by
  cases ht : textOk (bs t)
  · exact .inl (put_bad h ht)
  · cases hg : getP l (printOf (bs t)) with
    | some u =>
      by_cases hu : u = t
      · subst hu; exact .inr (.inl ⟨rfl, rfl, put_there h ht hg⟩)
      · exact .inl (put_other h ht hg hu)
    | none =>
      by_cases hl : l.length = 40
      · exact .inl (put_full h ht hg hl)
      · have := (st_in h).1
        exact .inr (.inr ⟨rfl, rfl, by omega, put_new h ht hg hl⟩)
theorem put_ok {l : List Pc} {t : ByteArray} (h : storeOk l = true) : storeOk (putS l t).1 = true := by
  rcases put_cases (t := t) h with e | ⟨_, _, e⟩ | ⟨ht, hg, hl, e⟩
  · rw [e]; exact h
  · rw [e]; exact h
  · rw [e]
    refine st_iff.2 ⟨by rw [insP_len]; omega, fun x hx => ?_, insP_asc (st_asc h) hg⟩
    rcases insP_mem.1 hx with hx | rfl
    · exact st_all h hx
    · exact pcOk_iff.2 ⟨ht, rfl⟩
/-- What was put has the text's print. -/
theorem put_print {l : List Pc} {t : ByteArray} (h : (putS l t).2.2 = true) : textOk (bs t) = true ∧ (putS l t).2.1 = printOf (bs t) := by
  cases hs : storeOk l
  · rw [put_off hs] at h; cases h
  · rcases put_cases (t := t) hs with e | ⟨ht, _, e⟩ | ⟨ht, _, _, e⟩
    · rw [e] at h; cases h
    · rw [e]; exact ⟨ht, rfl⟩
    · rw [e]; exact ⟨ht, rfl⟩

def takeStep (ps : List Int) (s : List Pc × Nat) (t : ByteArray) : List Pc × Nat := if (putS s.1 t).2.2 && hasI ps (putS s.1 t).2.1 then ((putS s.1 t).1, s.2) else (s.1, s.2 + 1)
def takeFrom (l : List Pc) (ps : List Int) (ts : List ByteArray) : List Pc × Nat := ts.foldl (takeStep ps) (l, 0)
def takeTexts (l : List Pc) (ps : List Int) (ts : List ByteArray) : List Pc × Int := if storeOk l then ((takeFrom l ps ts).1, ((takeFrom l ps ts).2 : Int)) else ([], -1)
theorem takeFrom_succ {l : List Pc} {ps : List Int} {ts : List ByteArray} {k : Nat} {t : ByteArray} (h : ts[k]? = some t) : takeFrom l ps (ts.take (k + 1)) = takeStep ps (takeFrom l ps (ts.take k)) t := foldl_succ _ _ h
theorem takeStep_ok {ps : List Int} {s : List Pc × Nat} {t : ByteArray} (h : storeOk s.1 = true) : storeOk (takeStep ps s t).1 = true := by
  unfold takeStep
  split
  · exact put_ok h
  · exact h
theorem takeStep_le {ps : List Int} {s : List Pc × Nat} {t : ByteArray} : (takeStep ps s t).2 ≤ s.2 + 1 := by
  unfold takeStep
  split <;> simp
theorem takes_ok {ps : List Int} : ∀ (ts : List ByteArray) (s : List Pc × Nat), storeOk s.1 = true → storeOk (ts.foldl (takeStep ps) s).1 = true
  | [], _, h => h
  | _ :: r, _, h => takes_ok r _ (takeStep_ok h)

end Go.Proofs.YtkfkcbceoekgjaaDoor
