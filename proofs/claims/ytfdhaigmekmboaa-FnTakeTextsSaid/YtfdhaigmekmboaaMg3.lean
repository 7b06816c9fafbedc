/- Walks and plain facts, joined: PutP, WriteP, MapP, WayP, EntP, Pcs, InvG, InvD, ExI, Mark, ExS. -/
import Derived.Test.YtfdhaigmekmboaaMg1
import Derived.Test.YtfdhaigmekmboaaMg2
set_option linter.unusedVariables false

/- Plain facts on texts that are put into stores. No program in sight. -/
namespace Go.Proofs.Ytfdhaigmekmboaa
open Go.RowKit

theorem getP_no {l : List Pc} {n : Int} (h : getP l n = none) : ∀ x ∈ l, x.print ≠ n := by
  intro x hx he
  have : hasP l n = true := hasP_iff.2 ⟨x, hx, he⟩
  unfold hasP at this
  rw [h] at this
  cases this
theorem st_find {l : List Pc} {n : Int} (h : storeOk l = true) (hh : hasP l n = true) : ∃ x : Pc, l[findAt l n]? = some x ∧ getP l n = some x.text ∧ x.print = n := by
  cases hg : l[findAt l n]? with
  | none =>
    exfalso
    have := find_no (l := l) (n := n) (st_asc h) (fun z hz => by rw [hg] at hz; cases hz)
    unfold hasP at hh
    rw [this] at hh
    cases hh
  | some z =>
    by_cases hz : z.print = n
    · exact ⟨z, rfl, find_has (st_asc h) hg hz, hz⟩
    · exfalso
      have := find_no (l := l) (n := n) (st_asc h) (fun z' hz' => by rw [hg] at hz'; rw [← Option.some.inj hz']; exact hz)
      unfold hasP at hh
      rw [this] at hh
      cases hh

/-- A row with a piece in its place. -/
def insP (l : List Pc) (p : Int) (t : ByteArray) : List Pc := l.take (findAt l p) ++ ⟨p, t⟩ :: l.drop (findAt l p)
theorem insP_len (l : List Pc) (p : Int) (t : ByteArray) : (insP l p t).length = l.length + 1 := by
  have := findAt_le l p
  simp [insP]; omega
theorem insP_mem {l : List Pc} {p : Int} {t : ByteArray} {x : Pc} : x ∈ insP l p t ↔ x ∈ l ∨ x = ⟨p, t⟩ := by
  unfold insP
  rw [List.mem_append, List.mem_cons]
  constructor
  · rintro (h | h | h)
    · exact .inl (List.mem_of_mem_take h)
    · exact .inr h
    · exact .inl (List.mem_of_mem_drop h)
  · rintro (h | h)
    · rw [← List.take_append_drop (findAt l p) l, List.mem_append] at h
      rcases h with h | h
      · exact .inl h
      · exact .inr (.inr h)
    · exact .inr (.inl h)
theorem insP_asc {l : List Pc} {p : Int} {t : ByteArray} (ha : l.Pairwise (fun a b => a.print < b.print)) (hn : getP l p = none) : (insP l p t).Pairwise (fun a b => a.print < b.print) := by
  have h1 : ∀ a ∈ l.take (findAt l p), a.print < p := by
    intro a hm
    obtain ⟨j, hj, e⟩ := List.getElem_of_mem hm
    have hj' : j < findAt l p := by simp at hj; omega
    have hg : l[j]? = some a := by
      rw [← List.getElem?_take_of_lt hj', List.getElem?_eq_getElem hj, e]
    exact findAt_below hj' hg
  have h2 : ∀ b ∈ l.drop (findAt l p), p < b.print := by
    intro b hm
    obtain ⟨j, hj, e⟩ := List.getElem_of_mem hm
    have hg : l[findAt l p + j]? = some b := by rw [← List.getElem?_drop, List.getElem?_eq_getElem hj, e]
    obtain ⟨y, hy⟩ : ∃ y, l[findAt l p]? = some y := ⟨l[findAt l p]'(by have := (List.getElem?_eq_some_iff.1 hg).1; omega), List.getElem?_eq_getElem _⟩
    have h3 := findAt_at hy
    have h4 := getP_no hn b (List.mem_of_getElem? hg)
    rcases Nat.eq_zero_or_pos j with h0 | h0
    · subst h0
      rw [Nat.add_zero, hy] at hg
      have := Option.some.inj hg
      subst this
      omega
    · have := asc_get ha hy hg (by omega)
      omega
  unfold insP
  rw [List.pairwise_append]
  refine ⟨ha.sublist (List.take_sublist _ _), List.Pairwise.cons h2 (ha.sublist (List.drop_sublist _ _)), ?_⟩
  intro a hma b hmb
  rcases List.mem_cons.1 hmb with rfl | hmb
  · exact h1 a hma
  · have := h1 a hma; have := h2 b hmb; omega

/-- A store behind a put text, the print, and whether it was put. -/
def putS (l : List Pc) (t : ByteArray) : List Pc × Int × Bool :=
  if storeOk l then
    if textOk (bs t) then
      match getP l (printOf (bs t)) with
      | some u => if u = t then (l, printOf (bs t), true) else (l, -1, false)
      | none => if l.length = 40 then (l, -1, false) else (insP l (printOf (bs t)) t, printOf (bs t), true)
    else (l, -1, false)
  else ([], -1, false)
theorem put_off {l : List Pc} {t : ByteArray} (h : storeOk l = false) : putS l t = ([], -1, false) := by unfold putS; rw [h]; rfl
theorem put_bad {l : List Pc} {t : ByteArray} (h : storeOk l = true) (ht : textOk (bs t) = false) : putS l t = (l, -1, false) := by unfold putS; rw [h, ht]; rfl
theorem put_there {l : List Pc} {t : ByteArray} (h : storeOk l = true) (ht : textOk (bs t) = true) (hg : getP l (printOf (bs t)) = some t) : putS l t = (l, printOf (bs t), true) := by unfold putS; rw [h, ht, hg]; simp
theorem put_other {l : List Pc} {t u : ByteArray} (h : storeOk l = true) (ht : textOk (bs t) = true) (hg : getP l (printOf (bs t)) = some u) (hu : u ≠ t) : putS l t = (l, -1, false) := by unfold putS; rw [h, ht, hg]; simp [hu]
theorem put_full {l : List Pc} {t : ByteArray} (h : storeOk l = true) (ht : textOk (bs t) = true) (hg : getP l (printOf (bs t)) = none) (hl : l.length = 40) : putS l t = (l, -1, false) := by unfold putS; rw [h, ht, hg]; simp [hl]
theorem put_new {l : List Pc} {t : ByteArray} (h : storeOk l = true) (ht : textOk (bs t) = true) (hg : getP l (printOf (bs t)) = none) (hl : l.length ≠ 40) : putS l t = (insP l (printOf (bs t)) t, printOf (bs t), true) := by unfold putS; rw [h, ht, hg]; simp [hl]
theorem put_cases {l : List Pc} {t : ByteArray} (h : storeOk l = true) :
    (putS l t = (l, -1, false)) ∨ (textOk (bs t) = true ∧ getP l (printOf (bs t)) = some t ∧ putS l t = (l, printOf (bs t), true)) ∨
    (textOk (bs t) = true ∧ getP l (printOf (bs t)) = none ∧ l.length < 40 ∧ putS l t = (insP l (printOf (bs t)) t, printOf (bs t), true)) := by
  cases ht : textOk (bs t)
  · exact .inl (put_bad h ht)
  · cases hg : getP l (printOf (bs t)) with
    | some u =>
      by_cases hu : u = t
      · subst hu; exact .inr (.inl ⟨rfl, rfl, put_there h ht hg⟩)
      · exact .inl (put_other h ht hg hu)
    | none =>
      by_cases hl : l.length = 40
      · exact .inl (put_full h ht hg hl)
      · have := (st_in h).1
        exact .inr (.inr ⟨rfl, rfl, by omega, put_new h ht hg hl⟩)
theorem put_ok {l : List Pc} {t : ByteArray} (h : storeOk l = true) : storeOk (putS l t).1 = true := by
  rcases put_cases (t := t) h with e | ⟨_, _, e⟩ | ⟨ht, hg, hl, e⟩
  · rw [e]; exact h
  · rw [e]; exact h
  · rw [e]
    refine st_iff.2 ⟨by rw [insP_len]; omega, fun x hx => ?_, insP_asc (st_asc h) hg⟩
    rcases insP_mem.1 hx with hx | rfl
    · exact st_all h hx
    · exact pcOk_iff.2 ⟨ht, rfl⟩
/-- What was put has the text's print. -/
theorem put_print {l : List Pc} {t : ByteArray} (h : (putS l t).2.2 = true) : textOk (bs t) = true ∧ (putS l t).2.1 = printOf (bs t) := by
  cases hs : storeOk l
  · rw [put_off hs] at h; cases h
  · rcases put_cases (t := t) hs with e | ⟨ht, _, e⟩ | ⟨ht, _, _, e⟩
    · rw [e] at h; cases h
    · rw [e]; exact ⟨ht, rfl⟩
    · rw [e]; exact ⟨ht, rfl⟩

def takeStep (ps : List Int) (s : List Pc × Nat) (t : ByteArray) : List Pc × Nat := if (putS s.1 t).2.2 && hasI ps (putS s.1 t).2.1 then ((putS s.1 t).1, s.2) else (s.1, s.2 + 1)
def takeFrom (l : List Pc) (ps : List Int) (ts : List ByteArray) : List Pc × Nat := ts.foldl (takeStep ps) (l, 0)
def takeTexts (l : List Pc) (ps : List Int) (ts : List ByteArray) : List Pc × Int := if storeOk l then ((takeFrom l ps ts).1, ((takeFrom l ps ts).2 : Int)) else ([], -1)
theorem takeFrom_succ {l : List Pc} {ps : List Int} {ts : List ByteArray} {k : Nat} {t : ByteArray} (h : ts[k]? = some t) : takeFrom l ps (ts.take (k + 1)) = takeStep ps (takeFrom l ps (ts.take k)) t := foldl_succ _ _ h
theorem takeStep_ok {ps : List Int} {s : List Pc × Nat} {t : ByteArray} (h : storeOk s.1 = true) : storeOk (takeStep ps s t).1 = true := by
  unfold takeStep
  split
  · exact put_ok h
  · exact h
theorem takeStep_le {ps : List Int} {s : List Pc × Nat} {t : ByteArray} : (takeStep ps s t).2 ≤ s.2 + 1 := by
  unfold takeStep
  split <;> simp
theorem takes_ok {ps : List Int} : ∀ (ts : List ByteArray) (s : List Pc × Nat), storeOk s.1 = true → storeOk (ts.foldl (takeStep ps) s).1 = true
  | [], _, h => h
  | _ :: r, _, h => takes_ok r _ (takeStep_ok h)

end Go.Proofs.Ytfdhaigmekmboaa

/- Plain facts on files, folders and paths that are written. No program in sight. -/
namespace Go.Proofs.Ytfdhaigmekmboaa
open Go.RowKit

def contOk (l : List UInt8) : Bool := textOk l && decide (l.length ≤ 40)
def fileText (l : List UInt8) : List UInt8 := if contOk l then 102 :: l else []
def isFile (l : List UInt8) : Bool := match l with | [] => false | c :: r => decide (c = 102) && contOk r
noncomputable def kindOf (l : List UInt8) : Int := if isFile l then 1 else if (readFolder l).isSome then 2 else 0

/-! ### Entries -/
/-- How many entries have a smaller name, from the first on. -/
def entAt (l : List Ent) (nm : ByteArray) : Nat := (l.takeWhile fun x => ltN x.name nm).length
def isNm (l : List Ent) (nm : ByteArray) (k : Nat) : Bool := match l[k]? with | some x => decide (x.name = nm) | none => false
def putE (l : List Ent) (e : Ent) : List Ent := (l.take (entAt l e.name) ++ [e]) ++ (if isNm l e.name (entAt l e.name) then l.drop (entAt l e.name + 1) else l.drop (entAt l e.name))
def putEnt (l : List Ent) (e : Ent) : List Ent × Bool := if entsOk l then (if entsOk (putE l e) then (putE l e, true) else (l, false)) else ([], false)
def dropE (l : List Ent) (nm : ByteArray) : List Ent := l.filter fun x => !decide (x.name = nm)
def dropEnt (l : List Ent) (nm : ByteArray) : List Ent × Bool := if entsOk l then (dropE l nm, decide ((dropE l nm).length < l.length)) else ([], false)
/-- The print that a name has last; -1 for none. -/
def childOf (l : List Ent) (nm : ByteArray) : Int := l.foldl (fun c e => if e.name = nm then e.print else c) (-1)
/-- The print that a name has first. -/
def firstOf (l : List Ent) (nm : ByteArray) : Option Int := (l.find? fun e => decide (e.name = nm)).map (·.print)
theorem tw_all {α : Type} (p : α → Bool) : ∀ (l : List α) (x : α), x ∈ l.takeWhile p → p x = true
  | [], x, h => by simp at h
  | a :: r, x, h => by
    rw [List.takeWhile_cons] at h
    split at h
    · rename_i ha
      rcases List.mem_cons.1 h with rfl | h
      · exact ha
      · exact tw_all p r x h
    · simp at h
theorem entAt_le (l : List Ent) (nm : ByteArray) : entAt l nm ≤ l.length := by
  unfold entAt
  have := (List.takeWhile_sublist (fun x : Ent => ltN x.name nm) (l := l)).length_le
  exact this
theorem entAt_below {l : List Ent} {nm : ByteArray} {j : Nat} {x : Ent} (hj : j < entAt l nm) (h : l[j]? = some x) : ltN x.name nm = true := by
  unfold entAt at hj
  have h1 : (l.takeWhile fun x => ltN x.name nm)[j]? = some x := by
    have := List.takeWhile_prefix (fun x : Ent => ltN x.name nm) (l := l)
    obtain ⟨t, ht⟩ := this
    rw [← ht] at h
    rw [List.getElem?_append_left hj] at h
    exact h
  exact tw_all _ l x (List.mem_of_getElem? h1)
theorem entAt_stop {l : List Ent} {nm : ByteArray} {k : Nat} (hk : k ≤ l.length) (h1 : ∀ j x, j < k → l[j]? = some x → ltN x.name nm = true) (h2 : ∀ x, l[k]? = some x → ltN x.name nm = false) : entAt l nm = k := by
  unfold entAt
  exact takeWhile_len _ l k hk h1 h2
theorem putE_len (l : List Ent) (e : Ent) : (putE l e).length ≤ l.length + 1 := by
  have := entAt_le l e.name
  unfold putE
  split <;> simp <;> omega
theorem putEnt_len {l : List Ent} {e : Ent} : (putEnt l e).1.length ≤ 3 := by
  unfold putEnt
  split
  · rename_i h
    split
    · rename_i h2
      exact (ents_in h2).1
    · exact (ents_in h).1
  · simp
theorem dropE_len (l : List Ent) (nm : ByteArray) : (dropE l nm).length ≤ l.length := List.length_filter_le _ _

/-! ### Paths -/
def splitStep (out : List (List UInt8)) (c : UInt8) : List (List UInt8) := if c = 47 then out ++ [[]] else if out = [] then [] else out.dropLast ++ [(out.getLastD []) ++ [c]]
def splitP (l : List UInt8) : List (List UInt8) := l.foldl splitStep []
def joinP (ws : List (List UInt8)) : List UInt8 := if ws = [] then [47] else if ws.length ≤ 3 ∧ ws.all wordOk = true then ws.flatMap (fun x => 47 :: x) else []
def pathParts (l : List UInt8) : Option (List (List UInt8)) := if l = [47] then some [] else if l ≠ [] ∧ joinP (splitP l) = l then some (splitP l) else none
theorem pathParts_in {l : List UInt8} {ws : List (List UInt8)} (h : pathParts l = some ws) : ws.length ≤ 3 ∧ (∀ x ∈ ws, wordOk x = true) ∧ joinP ws = l := by
  unfold pathParts at h
  split at h
  · rename_i h1
    obtain rfl := Option.some.inj h
    exact ⟨by simp, by simp, by rw [h1]; rfl⟩
  · split at h
    · rename_i h1 h2
      obtain rfl := Option.some.inj h
      obtain ⟨h3, h4⟩ := h2
      have h5 := h4
      unfold joinP at h4
      split at h4
      · rename_i h6
        rw [h6] at h5
        exact absurd h5.symm h1
      · split at h4
        · rename_i h7
          exact ⟨h7.1, fun x hx => List.all_eq_true.1 h7.2 x hx, h5⟩
        · exact absurd h4.symm h3
    · cases h

/-! ### Stores -/
noncomputable def textAt (l : List Pc) (pr : Int) : List UInt8 := bs ((getP l pr).getD ByteArray.empty)
noncomputable def badLeaf (l : List Pc) (ch : Int) : Bool := !hasP l ch || decide (kindOf (textAt l ch) ≠ 1)
noncomputable def setAt : List Pc → Int → List ByteArray → Int → List Pc × Int × Bool
  | s, _, [], leaf => (s, leaf, true)
  | s, pr, nm :: rest, leaf =>
    match (if 0 ≤ pr then readFolder (textAt s pr) else some []) with
    | none => (s, -1, false)
    | some es =>
      if rest = [] ∧ 0 ≤ childOf es nm ∧ badLeaf s (childOf es nm) = true then (s, -1, false)
      else if (setAt s (childOf es nm) rest leaf).2.2 = false then ((setAt s (childOf es nm) rest leaf).1, -1, false)
      else if (putEnt es ⟨nm, (setAt s (childOf es nm) rest leaf).2.1⟩).2 = false then ((setAt s (childOf es nm) rest leaf).1, -1, false)
      else putS (setAt s (childOf es nm) rest leaf).1 (strL (folderText (putEnt es ⟨nm, (setAt s (childOf es nm) rest leaf).2.1⟩).1))
/-- A folder's entries without a name, or with another print for it. -/
def leftE (es : List Ent) (nm : ByteArray) (left : Int) : List Ent := if 0 ≤ left then (putEnt es ⟨nm, left⟩).1 else (dropEnt es nm).1
def dropEnd (t : List Pc) (es : List Ent) : List Pc × Int × Bool := if es = [] then (t, -1, true) else putS t (strL (folderText es))
noncomputable def dropIn : List Pc → Int → List ByteArray → List Pc × Int × Bool
  | s, _, [] => (s, -1, false)
  | s, pr, nm :: rest =>
    if childOf (entsOf (textAt s pr)) nm < 0 then (s, -1, false)
    else if rest = [] then dropEnd s (leftE (entsOf (textAt s pr)) nm (-1))
    else if (dropIn s (childOf (entsOf (textAt s pr)) nm) rest).2.2 = false then (s, -1, false)
    else dropEnd (dropIn s (childOf (entsOf (textAt s pr)) nm) rest).1 (leftE (entsOf (textAt s pr)) nm (dropIn s (childOf (entsOf (textAt s pr)) nm) rest).2.1)
noncomputable def walkAt : List Pc → Int → List ByteArray → Int × Bool
  | s, pr, [] => if hasP s pr then (pr, true) else (-1, false)
  | s, pr, nm :: rest => match firstOf (entsOf (textAt s pr)) nm with | some ch => walkAt s ch rest | none => (-1, false)
noncomputable def emptyRoot (s : List Pc) : List Pc × Int × Bool := putS s (strL (folderText []))
noncomputable def writeAt (s : List Pc) (root : Int) (path content : List UInt8) : List Pc × Int × Bool :=
  match pathParts path with
  | none => ([], -1, false)
  | some ws =>
    if storeOk s = false ∨ ws = [] ∨ contOk content = false then ([], -1, false)
    else if hasP s root = false then (s, root, false)
    else if (setAt s root (ws.map strL) (printOf (fileText content))).2.2 = false then (s, root, false)
    else if (putS (setAt s root (ws.map strL) (printOf (fileText content))).1 (strL (fileText content))).2.2 = false then (s, root, false)
    else ((putS (setAt s root (ws.map strL) (printOf (fileText content))).1 (strL (fileText content))).1, (setAt s root (ws.map strL) (printOf (fileText content))).2.1, true)
noncomputable def dropTo (s : List Pc) (root : Int) (ws : List ByteArray) : List Pc × Int × Bool :=
  if (dropIn s root ws).2.2 = true ∧ (dropIn s root ws).2.1 < 0 then emptyRoot (dropIn s root ws).1 else dropIn s root ws
noncomputable def dropAt (s : List Pc) (root : Int) (path : List UInt8) : List Pc × Int × Bool :=
  match pathParts path with
  | none => ([], -1, false)
  | some ws =>
    if storeOk s = false ∨ ws = [] then ([], -1, false)
    else if (walkAt s root (ws.map strL)).2 = false then (s, root, false)
    else if (dropTo s root (ws.map strL)).2.2 = false then (s, root, false)
    else ((dropTo s root (ws.map strL)).1, (dropTo s root (ws.map strL)).2.1, true)

/-! ### What is put stays a store -/
theorem set_ok : ∀ (parts : List ByteArray) (s : List Pc) (pr leaf : Int), storeOk s = true → storeOk (setAt s pr parts leaf).1 = true
  | [], s, pr, leaf, h => h
  | nm :: rest, s, pr, leaf, h => by
    unfold setAt
    split
    · exact h
    · rename_i es _
      have ih := set_ok rest s (childOf es nm) leaf h
      split
      · exact h
      · split
        · exact ih
        · split
          · exact ih
          · exact put_ok ih
theorem dropEnd_ok {t : List Pc} (es : List Ent) (h : storeOk t = true) : storeOk (dropEnd t es).1 = true := by
  unfold dropEnd
  split
  · exact h
  · exact put_ok h
theorem dropIn_ok : ∀ (parts : List ByteArray) (s : List Pc) (pr : Int), storeOk s = true → storeOk (dropIn s pr parts).1 = true
  | [], s, pr, h => h
  | nm :: rest, s, pr, h => by
    unfold dropIn
    have ih := dropIn_ok rest s (childOf (entsOf (textAt s pr)) nm) h
    split
    · exact h
    · split
      · exact dropEnd_ok _ h
      · split
        · exact h
        · exact dropEnd_ok _ ih

end Go.Proofs.Ytfdhaigmekmboaa

/- Stores of pieces as maps from prints to texts; texts put in a row. No program in sight. -/
namespace Go.Proofs.Ytfdhaigmekmboaa
open Go.RowKit

theorem asc_ext : ∀ (a b : List Pc), a.Pairwise (fun x y => x.print < y.print) → b.Pairwise (fun x y => x.print < y.print) → (∀ x, x ∈ a ↔ x ∈ b) → a = b
  | [], [], _, _, _ => rfl
  | [], q :: u, _, _, h => by have := (h q).2 (by simp); simp at this
  | p :: r, [], _, _, h => by have := (h p).1 (by simp); simp at this
  | p :: r, q :: u, ha, hb, h => by
    obtain ⟨a1, a2⟩ := List.pairwise_cons.1 ha
    obtain ⟨b1, b2⟩ := List.pairwise_cons.1 hb
    have e : p = q := by
      rcases List.mem_cons.1 ((h p).1 (by simp)) with e | e
      · exact e
      · rcases List.mem_cons.1 ((h q).2 (by simp)) with e' | e'
        · exact e'.symm
        · have := b1 p e; have := a1 q e'; omega
    subst e
    rw [asc_ext r u a2 b2 (fun x => ⟨fun hx => by
      rcases List.mem_cons.1 ((h x).1 (List.mem_cons_of_mem _ hx)) with e | e
      · subst e; have := a1 x hx; omega
      · exact e, fun hx => by
      rcases List.mem_cons.1 ((h x).2 (List.mem_cons_of_mem _ hx)) with e | e
      · subst e; have := b1 x hx; omega
      · exact e⟩)]
theorem asc_len : ∀ (a b : List Pc), a.Pairwise (fun x y => x.print < y.print) → b.Pairwise (fun x y => x.print < y.print) → (∀ x, x ∈ a → x ∈ b) → a.length ≤ b.length
  | [], b, _, _, _ => by simp
  | p :: r, [], _, _, h => by have := h p (by simp); simp at this
  | p :: r, q :: u, ha, hb, h => by
    obtain ⟨a1, a2⟩ := List.pairwise_cons.1 ha
    obtain ⟨b1, b2⟩ := List.pairwise_cons.1 hb
    by_cases e : p = q
    · subst e
      have := asc_len r u a2 b2 (fun x hx => by
        rcases List.mem_cons.1 (h x (List.mem_cons_of_mem _ hx)) with e | e
        · subst e; have := a1 x hx; omega
        · exact e)
      simp; omega
    · have hp : p ∈ u := by
        rcases List.mem_cons.1 (h p (by simp)) with e' | e'
        · exact absurd e' e
        · exact e'
      have hq := b1 p hp
      have := asc_len (p :: r) u ha b2 (fun x hx => by
        rcases List.mem_cons.1 (h x hx) with e' | e'
        · exfalso
          subst e'
          rcases List.mem_cons.1 hx with e2 | e2
          · exact e e2.symm
          · have := a1 x e2; omega
        · exact e')
      simp at this ⊢; omega
theorem getP_iff {l : List Pc} (h : storeOk l = true) {n : Int} {t : ByteArray} : getP l n = some t ↔ (⟨n, t⟩ : Pc) ∈ l := by
  constructor
  · intro hg
    obtain ⟨k, x, h1, rfl, rfl⟩ := getP_ex hg
    exact List.mem_of_getElem? h1
  · intro hm
    obtain ⟨j, hj, e⟩ := List.getElem_of_mem hm
    have hg : l[j]? = some ⟨n, t⟩ := by rw [List.getElem?_eq_getElem hj, e]
    exact getP_at hg (fun i y hi hy he => by have := asc_get (st_asc h) hy hg hi; omega)
theorem store_ext {a b : List Pc} (ha : storeOk a = true) (hb : storeOk b = true) (h : ∀ n t, getP a n = some t ↔ getP b n = some t) : a = b := by
  refine asc_ext a b (st_asc ha) (st_asc hb) (fun x => ?_)
  have := h x.print x.text
  rwa [getP_iff ha, getP_iff hb] at this

/-- All that is in the one is in the other. -/
def Le (s x : List Pc) : Prop := ∀ (n : Int) (t : ByteArray), getP s n = some t → getP x n = some t
theorem Le.rfl' (s : List Pc) : Le s s := fun _ _ h => h
theorem Le.trans {a b c : List Pc} (h : Le a b) (k : Le b c) : Le a c := fun n t hn => k n t (h n t hn)
theorem Le.len {a b : List Pc} (ha : storeOk a = true) (hb : storeOk b = true) (h : Le a b) : a.length ≤ b.length :=
  asc_len a b (st_asc ha) (st_asc hb) (fun x hx => (getP_iff hb).1 (h _ _ ((getP_iff ha).2 hx)))
theorem insP_get {s : List Pc} {t : ByteArray} (hs : storeOk s = true) (ht : textOk (bs t) = true) (hn : getP s (printOf (bs t)) = none) (hl : s.length < 40) :
    storeOk (insP s (printOf (bs t)) t) = true ∧ ∀ n u, getP (insP s (printOf (bs t)) t) n = some u ↔ (getP s n = some u ∨ (n = printOf (bs t) ∧ u = t)) := by
  have ho : storeOk (insP s (printOf (bs t)) t) = true := by
    have := put_ok (t := t) hs
    rw [put_new hs ht hn (by omega)] at this
    exact this
  refine ⟨ho, fun n u => ?_⟩
  rw [getP_iff ho, insP_mem, ← getP_iff hs, Pc.mk.injEq]

/-- A text is put. -/
theorem put_get {s : List Pc} {t : ByteArray} (hs : storeOk s = true) (h : (putS s t).2.2 = true) :
    storeOk (putS s t).1 = true ∧ textOk (bs t) = true ∧ (putS s t).2.1 = printOf (bs t) ∧ ∀ n u, getP (putS s t).1 n = some u ↔ (getP s n = some u ∨ (n = printOf (bs t) ∧ u = t)) := by
  rcases put_cases (t := t) hs with e | ⟨ht, hg, e⟩ | ⟨ht, hg, hl, e⟩
  · rw [e] at h; cases h
  · rw [e]
    refine ⟨hs, ht, rfl, fun n u => ⟨.inl, ?_⟩⟩
    rintro (h1 | ⟨rfl, rfl⟩)
    · exact h1
    · exact hg
  · rw [e]
    have := insP_get hs ht hg hl
    exact ⟨this.1, ht, rfl, this.2⟩
theorem put_can {s s' : List Pc} {t : ByteArray} (hs : storeOk s = true) (hs' : storeOk s' = true) (ht : textOk (bs t) = true) (hle : Le s s') (hin : getP s' (printOf (bs t)) = some t) : (putS s t).2.2 = true := by
  cases hg : getP s (printOf (bs t)) with
  | some u =>
    have := hle _ _ hg
    rw [hin] at this
    obtain rfl := Option.some.inj this
    rw [put_there hs ht hg]
  | none =>
    have h40 := (st_in hs').1
    have hl : s.length + 1 ≤ s'.length := by
      rw [← insP_len s (printOf (bs t)) t]
      refine asc_len _ _ (insP_asc (st_asc hs) hg) (st_asc hs') (fun x hx => ?_)
      rcases insP_mem.1 hx with h1 | rfl
      · exact (getP_iff hs').1 (hle _ _ ((getP_iff hs).2 h1))
      · exact (getP_iff hs').1 hin
    rw [put_new hs ht hg (by omega)]

/-- Texts put one behind the other; none if one cannot be. -/
def putAll : List Pc → List ByteArray → Option (List Pc)
  | s, [] => some s
  | s, t :: r => if (putS s t).2.2 then putAll (putS s t).1 r else none
theorem putAll_iff : ∀ (T : List ByteArray) {s s' : List Pc}, storeOk s = true → (putAll s T = some s' ↔ (storeOk s' = true ∧ (∀ t ∈ T, textOk (bs t) = true) ∧ ∀ n u, getP s' n = some u ↔ (getP s n = some u ∨ ∃ t ∈ T, n = printOf (bs t) ∧ u = t)))
  | [], s, s', hs => by
    simp only [putAll, Option.some.injEq]
    constructor
    · rintro rfl; exact ⟨hs, by simp, by simp⟩
    · rintro ⟨h1, _, h3⟩
      exact store_ext hs h1 (fun n u => by rw [h3]; simp)
  | t :: r, s, s', hs => by
    simp only [putAll]
    constructor
    · intro h
      split at h
      · rename_i hp
        obtain ⟨h1, h2, _, h4⟩ := put_get hs hp
        obtain ⟨k1, k2, k3⟩ := (putAll_iff r h1).1 h
        refine ⟨k1, fun x hx => ?_, fun n u => ?_⟩
        · rcases List.mem_cons.1 hx with rfl | hx
          · exact h2
          · exact k2 x hx
        · rw [k3, h4]
          constructor
          · rintro ((h5 | h5) | ⟨x, hx, h5⟩)
            · exact .inl h5
            · exact .inr ⟨t, by simp, h5⟩
            · exact .inr ⟨x, by simp [hx], h5⟩
          · rintro (h5 | ⟨x, hx, h5⟩)
            · exact .inl (.inl h5)
            · rcases List.mem_cons.1 hx with rfl | hx
              · exact .inl (.inr h5)
              · exact .inr ⟨x, hx, h5⟩
      · cases h
    · rintro ⟨k1, k2, k3⟩
      have hle : Le s s' := fun n u hn => (k3 n u).2 (.inl hn)
      have hp := put_can hs k1 (k2 t (by simp)) hle ((k3 _ _).2 (.inr ⟨t, by simp, rfl, rfl⟩))
      rw [if_pos hp]
      obtain ⟨h1, h2, _, h4⟩ := put_get hs hp
      refine (putAll_iff r h1).2 ⟨k1, fun x hx => k2 x (by simp [hx]), fun n u => ?_⟩
      rw [k3, h4]
      constructor
      · rintro (h5 | ⟨x, hx, h5⟩)
        · exact .inl (.inl h5)
        · rcases List.mem_cons.1 hx with rfl | hx
          · exact .inl (.inr h5)
          · exact .inr ⟨x, hx, h5⟩
      · rintro ((h5 | h5) | ⟨x, hx, h5⟩)
        · exact .inl h5
        · exact .inr ⟨t, by simp, h5⟩
        · exact .inr ⟨x, by simp [hx], h5⟩
theorem putAll_same {s : List Pc} {T T' : List ByteArray} (hs : storeOk s = true) (h : ∀ t, t ∈ T ↔ t ∈ T') : putAll s T = putAll s T' := by
  apply Option.ext
  intro s'
  rw [putAll_iff T hs, putAll_iff T' hs]
  simp only [h]
theorem putAll_append : ∀ (T T' : List ByteArray) (s : List Pc), putAll s (T ++ T') = (putAll s T).bind fun s1 => putAll s1 T'
  | [], T', s => rfl
  | t :: r, T', s => by
    simp only [List.cons_append, putAll]
    split
    · exact putAll_append r T' _
    · rfl
theorem putAll_one (s : List Pc) (t : ByteArray) : putAll s [t] = if (putS s t).2.2 then some (putS s t).1 else none := rfl
theorem putAll_le {T : List ByteArray} {s s' : List Pc} (hs : storeOk s = true) (h : putAll s T = some s') : storeOk s' = true ∧ Le s s' ∧ ∀ t ∈ T, textOk (bs t) = true ∧ getP s' (printOf (bs t)) = some t := by
  obtain ⟨k1, k2, k3⟩ := (putAll_iff T hs).1 h
  exact ⟨k1, fun n u hn => (k3 n u).2 (.inl hn), fun t ht => ⟨k2 t ht, (k3 _ _).2 (.inr ⟨t, ht, rfl, rfl⟩)⟩⟩
/-- What is there already can be put, and nothing is changed. -/
theorem putAll_there {T : List ByteArray} {s : List Pc} (hs : storeOk s = true) (h : ∀ t ∈ T, textOk (bs t) = true ∧ getP s (printOf (bs t)) = some t) : putAll s T = some s := by
  refine (putAll_iff T hs).2 ⟨hs, fun t ht => (h t ht).1, fun n u => ⟨.inl, ?_⟩⟩
  rintro (h1 | ⟨t, ht, rfl, rfl⟩)
  · exact h1
  · exact (h _ ht).2

end Go.Proofs.Ytfdhaigmekmboaa

/- Ways of names through folders, and what is put on the way back: the program's order of writing and the reference's come to the same. No program in sight. -/
namespace Go.Proofs.Ytfdhaigmekmboaa
open Go.RowKit

/-! ### Names in order -/
theorem blt_irr (a : List UInt8) : Go.Op.bytesLess a a = false := by
  induction a with
  | nil => rfl
  | cons x r ih => simp [Go.Op.bytesLess, ih]
theorem blt_trans : ∀ (a b c : List UInt8), Go.Op.bytesLess a b = true → Go.Op.bytesLess b c = true → Go.Op.bytesLess a c = true
  | [], _, [], _, h => by cases ‹List UInt8› <;> simp [Go.Op.bytesLess] at h
  | [], _, _ :: _, _, _ => by simp [Go.Op.bytesLess]
  | _ :: _, [], _, h, _ => by simp [Go.Op.bytesLess] at h
  | _ :: _, _ :: _, [], _, h => by simp [Go.Op.bytesLess] at h
  | x :: r, y :: s, z :: t, h, k => by
    simp only [Go.Op.bytesLess, Bool.or_eq_true, Bool.and_eq_true, decide_eq_true_eq, beq_iff_eq] at h k ⊢
    rcases h with h | ⟨rfl, h⟩
    · rcases k with k | ⟨rfl, k⟩
      · exact .inl (UInt8.lt_trans h k)
      · exact .inl h
    · rcases k with k | ⟨rfl, k⟩
      · exact .inl k
      · exact .inr ⟨rfl, blt_trans _ _ _ h k⟩
theorem blt_tot : ∀ (a b : List UInt8), Go.Op.bytesLess a b = true ∨ a = b ∨ Go.Op.bytesLess b a = true
  | [], [] => .inr (.inl rfl)
  | [], _ :: _ => .inl (by simp [Go.Op.bytesLess])
  | _ :: _, [] => .inr (.inr (by simp [Go.Op.bytesLess]))
  | x :: r, y :: s => by
    simp only [Go.Op.bytesLess, Bool.or_eq_true, Bool.and_eq_true, decide_eq_true_eq, beq_iff_eq]
    by_cases h : x < y
    · exact .inl (.inl h)
    · by_cases k : y < x
      · exact .inr (.inr (.inl k))
      · have e : x = y := UInt8.le_antisymm (UInt8.not_lt.1 k) (UInt8.not_lt.1 h)
        subst e
        rcases blt_tot r s with h | rfl | h
        · exact .inl (.inr ⟨rfl, h⟩)
        · exact .inr (.inl rfl)
        · exact .inr (.inr (.inr ⟨rfl, h⟩))
theorem ltN_irr (a : ByteArray) : ltN a a = false := blt_irr _
theorem ltN_trans {a b c : ByteArray} (h : ltN a b = true) (k : ltN b c = true) : ltN a c = true := blt_trans _ _ _ h k
theorem ltN_tot (a b : ByteArray) : ltN a b = true ∨ a = b ∨ ltN b a = true := by
  rcases blt_tot (bs a) (bs b) with h | h | h
  · exact .inl h
  · exact .inr (.inl (bs_inj h))
  · exact .inr (.inr h)
def lo (p : Option ByteArray) (c : ByteArray) : Prop := ∀ b, p = some b → ltN b c = true
def loB : Option ByteArray → ByteArray → Bool
  | some b, c => ltN b c
  | none, _ => true
theorem entsFrom_loB (p : Option ByteArray) (e : Ent) (r : List Ent) : entsFrom p (e :: r) = (entOk e && loB p e.name && entsFrom (some e.name) r) := by cases p <;> rfl
theorem entsFrom_iff : ∀ {l : List Ent} {p : Option ByteArray}, entsFrom p l = true ↔ ((∀ e ∈ l, entOk e = true ∧ lo p e.name) ∧ l.Pairwise (fun a b => ltN a.name b.name = true))
  | [], _ => by simp [entsFrom]
  | e :: r, p => by
    have ih := @entsFrom_iff r (some e.name)
    have hlo : loB p e.name = true ↔ lo p e.name := by
      cases p with
      | none => simp [lo, loB]
      | some b => simp [lo, loB]
    rw [entsFrom_loB, Bool.and_eq_true, Bool.and_eq_true, hlo, ih, List.pairwise_cons]
    constructor
    · rintro ⟨⟨h1, h2⟩, h3, h4⟩
      refine ⟨fun x hx => ?_, fun x hx => (h3 x hx).2 _ rfl, h4⟩
      rcases List.mem_cons.1 hx with rfl | hx
      · exact ⟨h1, h2⟩
      · exact ⟨(h3 x hx).1, fun b hb => ltN_trans (h2 b hb) ((h3 x hx).2 _ rfl)⟩
    · rintro ⟨h1, h2, h3⟩
      exact ⟨h1 e (by simp), fun x hx => ⟨(h1 x (by simp [hx])).1, fun b hb => by obtain rfl := Option.some.inj hb; exact h2 x hx⟩, h3⟩
theorem ents_iff {l : List Ent} : entsOk l = true ↔ l.length ≤ 3 ∧ (∀ e ∈ l, entOk e = true) ∧ l.Pairwise (fun a b => ltN a.name b.name = true) := by
  simp only [entsOk, Bool.and_eq_true, decide_eq_true_eq]
  rw [entsFrom_iff]
  constructor
  · rintro ⟨h1, h2, h3⟩; exact ⟨h1, fun e he => (h2 e he).1, h3⟩
  · rintro ⟨h1, h2, h3⟩; exact ⟨h1, fun e he => ⟨h2 e he, fun b hb => by cases hb⟩, h3⟩

/-! ### The print that a name has -/
theorem child_none : ∀ (l : List Ent) (nm : ByteArray) (c : Int), (∀ e ∈ l, e.name ≠ nm) → l.foldl (fun c e => if e.name = nm then e.print else c) c = c
  | [], _, _, _ => rfl
  | e :: r, nm, c, h => by
    rw [List.foldl_cons, if_neg (h e (by simp))]
    exact child_none r nm c (fun x hx => h x (by simp [hx]))
theorem child_eq : ∀ {l : List Ent} {nm : ByteArray} (c : Int), l.Pairwise (fun a b => ltN a.name b.name = true) → l.foldl (fun c e => if e.name = nm then e.print else c) c = (firstOf l nm).getD c
  | [], _, _, _ => rfl
  | e :: r, nm, c, h => by
    obtain ⟨h1, h2⟩ := List.pairwise_cons.1 h
    rw [List.foldl_cons]
    unfold firstOf
    rw [List.find?_cons]
    by_cases he : e.name = nm
    · rw [if_pos he]
      simp only [he, decide_true]
      rw [child_none r nm _ (fun x hx e' => by have := h1 x hx; rw [he, e', ltN_irr] at this; cases this)]
      rfl
    · rw [if_neg he]
      simp only [he, decide_false]
      exact child_eq c h2
theorem child_first {l : List Ent} (h : entsOk l = true) (nm : ByteArray) : childOf l nm = (firstOf l nm).getD (-1) := child_eq (-1) (ents_iff.1 h).2.2
theorem first_mem {l : List Ent} {nm : ByteArray} {c : Int} (h : firstOf l nm = some c) : ⟨nm, c⟩ ∈ l := by
  unfold firstOf at h
  cases hf : l.find? (fun e => decide (e.name = nm)) with
  | none => rw [hf] at h; cases h
  | some e =>
    rw [hf] at h
    have h1 := List.mem_of_find?_eq_some hf
    have h2 := List.find?_some hf
    simp only [decide_eq_true_eq] at h2
    have h3 : e.print = c := Option.some.inj h
    obtain ⟨a, b⟩ := e
    simp only at h2 h3
    subst h2 h3
    exact h1
theorem first_iff {l : List Ent} (ho : entsOk l = true) {nm : ByteArray} {c : Int} : firstOf l nm = some c ↔ ⟨nm, c⟩ ∈ l := by
  refine ⟨first_mem, fun h => ?_⟩
  have hp := (ents_iff.1 ho).2.2
  clear ho
  induction l with
  | nil => simp at h
  | cons e r ih =>
    obtain ⟨h1, h2⟩ := List.pairwise_cons.1 hp
    unfold firstOf
    rw [List.find?_cons]
    rcases List.mem_cons.1 h with rfl | h
    · simp
    · have := h1 _ h
      have hne : e.name ≠ nm := by rintro rfl; simp only [ltN_irr] at this; cases this
      simp only [hne, decide_false]
      exact ih h h2
theorem first_pv {l : List Ent} (ho : entsOk l = true) {nm : ByteArray} {c : Int} (h : firstOf l nm = some c) : wordOk (bs nm) = true ∧ pv c = true := entOk_iff.1 (ents_all ho (first_mem h))
theorem first_no {l : List Ent} {nm : ByteArray} (h : firstOf l nm = none) : ∀ e ∈ l, e.name ≠ nm := by
  intro e he hn
  unfold firstOf at h
  rw [Option.map_eq_none_iff, List.find?_eq_none] at h
  exact h e he (by simpa using hn)

/-! ### Folders -/
theorem readFolder_emp : readFolder [] = none := readFolder_no (fun es h he => by rw [folder_on h] at he; cases he)
noncomputable def folderAt (s : List Pc) (pr : Int) : Option (List Ent) := (getP s pr).bind fun t => readFolder (bs t)
theorem folderAt_text (s : List Pc) (pr : Int) : readFolder (textAt s pr) = folderAt s pr := by
  unfold textAt folderAt
  cases getP s pr with
  | none => exact readFolder_emp
  | some t => rfl
theorem folderAt_ok {s : List Pc} {pr : Int} {es : List Ent} (h : folderAt s pr = some es) : entsOk es = true := by
  rw [← folderAt_text] at h
  exact (readFolder_some h).1
theorem folderAt_le {s x : List Pc} (h : Le s x) {pr : Int} {es : List Ent} (hf : folderAt s pr = some es) : folderAt x pr = some es := by
  unfold folderAt at hf ⊢
  cases hg : getP s pr with
  | none => rw [hg] at hf; cases hf
  | some t => rw [hg] at hf; rw [h _ _ hg]; exact hf
theorem entsOf_at (s : List Pc) (pr : Int) : entsOf (textAt s pr) = (folderAt s pr).getD [] := by unfold entsOf; rw [folderAt_text]
theorem folder_len {es : List Ent} (h : entsOk es = true) : (folderText es).length ≤ 49 := by
  rw [folder_on h]
  have h1 := (ents_in h).1
  have h2 : ∀ l : List Ent, (∀ e ∈ l, entOk e = true) → (entsText l).length ≤ 16 * l.length := by
    intro l
    induction l with
    | nil => intro _; simp [entsText]
    | cons e r ih =>
      intro hl
      have h3 := ih (fun x hx => hl x (by simp [hx]))
      have h4 : (bs e.name).length ≤ 8 := by
        have := (entOk_iff.1 (hl e (by simp))).1
        simp only [wordOk, Bool.and_eq_true, decide_eq_true_eq] at this
        omega
      have h5 := hexT_len e.print
      have h6 : entsText (e :: r) = entText e ++ entsText r := by simp [entsText]
      rw [h6]
      simp only [entText, List.length_append, List.length_cons, List.length_nil]
      omega
  have := h2 es (fun e he => ents_all h he)
  simp only [List.length_cons]
  omega
theorem tx_hex {c : UInt8} (h : (hexV c).isSome = true) : txCh c = true := by
  unfold hexV at h
  unfold txCh inB
  split at h
  · simp; omega
  · split at h
    · simp; omega
    · cases h
theorem tx_word {l : List UInt8} (h : wordOk l = true) {c : UInt8} (hc : c ∈ l) : txCh c = true := by
  simp only [wordOk, Bool.and_eq_true, decide_eq_true_eq] at h
  have := List.all_eq_true.1 h.2 c hc
  simp only [wordCh, isSm, isDig, inB, Bool.or_eq_true, Bool.and_eq_true, decide_eq_true_eq] at this
  unfold txCh inB
  simp
  omega
theorem folder_textOk {es : List Ent} (h : entsOk es = true) : textOk (folderText es) = true := by
  have hl := folder_len h
  unfold textOk
  rw [Bool.and_eq_true]
  refine ⟨by simp; omega, ?_⟩
  rw [List.all_eq_true]
  intro c hc
  rw [folder_on h] at hc
  rcases List.mem_cons.1 hc with rfl | hc
  · rfl
  · unfold entsText at hc
    obtain ⟨e, he, hc⟩ := List.mem_flatMap.1 hc
    have ho := entOk_iff.1 (ents_all h he)
    unfold entText at hc
    rcases List.mem_append.1 hc with hc | hc
    · exact tx_word ho.1 hc
    · rcases List.mem_cons.1 hc with rfl | hc
      · rfl
      · rcases List.mem_append.1 hc with hc | hc
        · exact tx_hex (hexT_ch hc)
        · simp at hc; subst hc; rfl
theorem file_textOk {c : List UInt8} (h : contOk c = true) : textOk (fileText c) = true ∧ isFile (fileText c) = true := by
  have hf : fileText c = 102 :: c := by unfold fileText; rw [if_pos h]
  have h0 := h
  unfold contOk textOk at h
  simp only [Bool.and_eq_true, decide_eq_true_eq] at h
  rw [hf]
  constructor
  · unfold textOk
    rw [Bool.and_eq_true]
    refine ⟨by simp; omega, ?_⟩
    rw [List.all_cons, h.1.2]; rfl
  · unfold isFile; simp [h0]
theorem file_no_folder {l : List UInt8} (h : isFile l = true) : readFolder l = none := by
  refine readFolder_no (fun es ho ht => ?_)
  rw [folder_on ho] at ht
  subst ht
  simp [isFile] at h
theorem readFolder_self {es : List Ent} (h : entsOk es = true) : readFolder (folderText es) = some es := readFolder_yes h rfl

/-! ### Ways -/
noncomputable def folderQ (s : List Pc) : Option Int → Option (List Ent)
  | some pr => folderAt s pr
  | none => some []
theorem folderQ_ok {s : List Pc} {q : Option Int} {es : List Ent} (h : folderQ s q = some es) : entsOk es = true := by
  cases q with
  | none => simp [folderQ] at h; subst h; rfl
  | some pr => exact folderAt_ok h
noncomputable def wayW (s : List Pc) : Option Int → List ByteArray → Option (List (List Ent) × Option Int)
  | q, [] => some ([], q)
  | q, nm :: r => match folderQ s q with
    | none => none
    | some es => match wayW s (firstOf es nm) r with | none => none | some (F, z) => some (es :: F, z)
/-- What is put on the way back, the last folder first; the print of the first one. -/
def upT : List (List Ent × ByteArray) → Int → Option (List ByteArray × Int)
  | [], pr => some ([], pr)
  | (es, nm) :: r, pr => match upT r pr with
    | none => none
    | some (T, ch) => if (putEnt es ⟨nm, ch⟩).2 then some (T ++ [strL (folderText (putEnt es ⟨nm, ch⟩).1)], printOf (folderText (putEnt es ⟨nm, ch⟩).1)) else none
noncomputable def leafOk (s : List Pc) (z : Option Int) : Bool := match z with | none => true | some c => hasP s c && isFile (textAt s c)
theorem way_len : ∀ (parts : List ByteArray) (s : List Pc) (q : Option Int) (F : List (List Ent)) (z : Option Int), wayW s q parts = some (F, z) → F.length = parts.length
  | [], s, q, F, z, h => by simp [wayW] at h; rw [h.1]; rfl
  | nm :: r, s, q, F, z, h => by
    unfold wayW at h
    split at h
    · cases h
    · split at h
      · cases h
      · rename_i es _ _ F' z' hw
        simp only [Option.some.injEq, Prod.mk.injEq] at h
        rw [← h.1, List.length_cons, List.length_cons, way_len r s _ F' z' hw]
theorem way_ok : ∀ (parts : List ByteArray) (s : List Pc) (q : Option Int) (F : List (List Ent)) (z : Option Int), wayW s q parts = some (F, z) → ∀ es ∈ F, entsOk es = true
  | [], s, q, F, z, h => by simp [wayW] at h; rw [h.1]; simp
  | nm :: r, s, q, F, z, h => by
    unfold wayW at h
    split at h
    · cases h
    · rename_i es hes
      split at h
      · cases h
      · rename_i F' z' hw
        simp only [Option.some.injEq, Prod.mk.injEq] at h
        rw [← h.1]
        intro x hx
        rcases List.mem_cons.1 hx with rfl | hx
        · exact folderQ_ok hes
        · exact way_ok r s _ F' z' hw x hx
theorem putEnt_ok {es : List Ent} {e : Ent} (h : (putEnt es e).2 = true) : entsOk es = true ∧ entsOk (putE es e) = true ∧ (putEnt es e).1 = putE es e := by
  unfold putEnt at h ⊢
  split at h
  · rename_i h1
    split at h
    · rename_i h2
      rw [if_pos h1, if_pos h2]
      exact ⟨h1, h2, rfl⟩
    · cases h
  · cases h
theorem badLeaf_eq (s : List Pc) (c : Int) : badLeaf s c = !(hasP s c && isFile (textAt s c)) := by
  unfold badLeaf kindOf
  cases hasP s c
  · simp
  · cases isFile (textAt s c)
    · simp only [Bool.not_true, Bool.false_or, Bool.and_false, Bool.not_false, decide_eq_true_eq, Bool.false_eq_true, if_false]
      split <;> decide
    · simp
theorem hasP_pv {s : List Pc} (hs : storeOk s = true) {c : Int} (h : hasP s c = true) : 0 ≤ c := by
  obtain ⟨x, hx, rfl⟩ := hasP_iff.1 h
  exact (pcOk_pv (st_all hs hx)).1

/-- The reference's writing on the way back, as texts put. -/
def setTo (s : List Pc) (parts : List ByteArray) (leaf : Int) (W : Option (List (List Ent) × Option Int)) (lk : Option Int → Bool) (R : List Pc × Int × Bool) : Prop :=
  match W with
  | none => R.2.2 = false
  | some (F, z) => if parts ≠ [] ∧ lk z = false then R.2.2 = false else match upT (F.zip parts) leaf with
    | none => R.2.2 = false
    | some (T, p) => match putAll s T with
      | none => R.2.2 = false
      | some s' => R = (s', p, true)
theorem set_way {s : List Pc} (hs : storeOk s = true) (leaf : Int) : ∀ (parts : List ByteArray) (q : Option Int), (∀ p, q = some p → 0 ≤ p) → setTo s parts leaf (wayW s q parts) (leafOk s) (setAt s (q.getD (-1)) parts leaf)
  | [], q, _ => by
    show setTo s [] leaf (some ([], q)) _ _
    simp [setTo, upT, putAll, setAt]
  | nm :: rest, q, hq => by
    have hr : (if 0 ≤ q.getD (-1) then readFolder (textAt s (q.getD (-1))) else some []) = folderQ s q := by
      cases q with
      | none => rfl
      | some p => simp only [Option.getD_some]; rw [if_pos (hq p rfl), folderAt_text]; rfl
    unfold wayW setAt
    rw [hr]
    cases hes : folderQ s q with
    | none => simp [setTo]
    | some es =>
      have ho : entsOk es = true := folderQ_ok hes
      simp only []
      rw [child_first ho nm]
      have ih := set_way hs leaf rest (firstOf es nm) (fun p hp => (pv_iff.1 (first_pv ho hp).2).1)
      have hbad : rest = [] → ((rest = [] ∧ 0 ≤ (firstOf es nm).getD (-1) ∧ badLeaf s ((firstOf es nm).getD (-1)) = true) ↔ leafOk s (firstOf es nm) = false) := by
        intro h0
        cases hf : firstOf es nm with
        | none => simp [leafOk]
        | some c =>
          have hc := (pv_iff.1 (first_pv ho hf).2).1
          simp only [Option.getD_some, leafOk, badLeaf_eq, Bool.not_eq_true', h0, true_and]
          exact ⟨fun h => h.2, fun h => ⟨hc, h⟩⟩
      cases hw : wayW s (firstOf es nm) rest with
      | none =>
        rw [hw] at ih
        simp only [setTo] at ih ⊢
        rcases Decidable.em (rest = []) with h0 | h0
        · subst h0; simp [wayW] at hw
        · rw [if_neg (fun h => h0 h.1), if_pos ih]
      | some FZ =>
        obtain ⟨F, z⟩ := FZ
        rw [hw] at ih
        simp only [setTo] at ih ⊢
        have hzz : rest = [] → z = firstOf es nm := by
          rintro rfl; simp [wayW] at hw; exact hw.2.symm
        by_cases hlk : leafOk s z = false
        · rw [if_pos ⟨by simp, hlk⟩]
          rcases Decidable.em (rest = []) with h0 | h0
          · rw [if_pos ((hbad h0).2 (by rw [← hzz h0]; exact hlk))]
          · rw [if_pos ⟨h0, hlk⟩] at ih
            rw [if_neg (fun h => h0 h.1), if_pos ih]
        · rw [if_neg (fun h => hlk h.2)]
          rw [if_neg (fun h => hlk h.2)] at ih
          have hnb : ¬ (rest = [] ∧ 0 ≤ (firstOf es nm).getD (-1) ∧ badLeaf s ((firstOf es nm).getD (-1)) = true) := by
            intro h
            have := (hbad h.1).1 h
            rw [← hzz h.1] at this
            exact hlk this
          rw [if_neg hnb]
          rw [List.zip_cons_cons]
          simp only [upT]
          cases hu : upT (F.zip rest) leaf with
          | none => rw [hu] at ih; simp only [] at ih ⊢; rw [if_pos ih]
          | some TP =>
            obtain ⟨T, p⟩ := TP
            rw [hu] at ih
            simp only [] at ih ⊢
            cases hpa : putAll s T with
            | none =>
              rw [hpa] at ih
              simp only [] at ih
              rw [if_pos ih]
              by_cases hpe : (putEnt es ⟨nm, p⟩).2 = true
              · rw [if_pos hpe]
                simp only []
                rw [putAll_append, hpa]
                simp only [Option.bind_none]
              · rw [if_neg hpe]
            | some s1 =>
              rw [hpa] at ih
              simp only [] at ih
              rw [ih]
              simp only [Bool.true_eq_false, if_false]
              by_cases hpe : (putEnt es ⟨nm, p⟩).2 = true
              · rw [if_neg (show ¬ (putEnt es ⟨nm, p⟩).2 = false by rw [hpe]; simp), if_pos hpe]
                simp only []
                rw [putAll_append, hpa]
                simp only [Option.bind_some]
                rw [putAll_one]
                have hs1 := (putAll_le hs hpa).1
                by_cases hput : (putS s1 (strL (folderText (putEnt es ⟨nm, p⟩).1))).2.2 = true
                · rw [if_pos hput]
                  have := (put_get hs1 hput).2.2.1
                  rw [bs_strL] at this
                  simp only []
                  rw [← this, ← hput]
                · rw [if_neg hput]
                  simp only []
                  simpa using hput
              · rw [if_neg hpe, if_pos (show (putEnt es ⟨nm, p⟩).2 = false by simpa using hpe)]

/-- A write: the way, what is put on the way back, and the file. -/
noncomputable def writeTo (s : List Pc) (root : Int) (ws : List ByteArray) (content : List UInt8) : Option (List Pc × Int) :=
  match wayW s (some root) ws with
  | none => none
  | some (F, z) => if leafOk s z = false then none else match upT (F.zip ws) (printOf (fileText content)) with
    | none => none
    | some (T, p) => match putAll s (strL (fileText content) :: T) with
      | none => none
      | some s' => some (s', p)
theorem writeAt_eq {s : List Pc} {root : Int} {path content : List UInt8} {ws : List (List UInt8)} (hs : storeOk s = true) (hp : pathParts path = some ws) (h0 : ws ≠ []) (hc : contOk content = true) :
    writeAt s root path content = match writeTo s root (ws.map strL) content with | none => (s, root, false) | some (s', p) => (s', p, true) := by
  have h0' : ws.map strL ≠ [] := by simpa using h0
  unfold writeAt
  rw [hp]
  simp only []
  rw [if_neg (fun h => h.elim (fun h => by rw [hs] at h; cases h) (fun h => h.elim h0 (fun h => by rw [hc] at h; cases h)))]
  unfold writeTo
  by_cases hr : hasP s root = false
  · rw [if_pos hr]
    have hw : wayW s (some root) (ws.map strL) = none := by
      cases hl : ws.map strL with
      | nil => exact absurd hl h0'
      | cons nm r =>
        have hg : getP s root = none := by unfold hasP at hr; simpa using hr
        have : folderAt s root = none := by unfold folderAt; rw [hg]; rfl
        simp [wayW, folderQ, this]
    rw [hw]
  · rw [if_neg hr]
    have hr1 : hasP s root = true := by simpa using hr
    have hset := set_way hs (printOf (fileText content)) (ws.map strL) (some root) (fun p hp => by obtain rfl := Option.some.inj hp; exact hasP_pv hs hr1)
    simp only [Option.getD_some] at hset
    cases hw : wayW s (some root) (ws.map strL) with
    | none =>
      rw [hw] at hset
      simp only [setTo] at hset
      rw [if_pos hset]
    | some FZ =>
      obtain ⟨F, z⟩ := FZ
      rw [hw] at hset
      simp only [setTo] at hset ⊢
      by_cases hlk : leafOk s z = false
      · rw [if_pos ⟨h0', hlk⟩] at hset
        rw [if_pos hset, if_pos hlk]
      · rw [if_neg (fun h => hlk h.2)] at hset
        rw [if_neg hlk]
        cases hu : upT (F.zip (ws.map strL)) (printOf (fileText content)) with
        | none => rw [hu] at hset; simp only [] at hset ⊢; rw [if_pos hset]
        | some TP =>
          obtain ⟨T, p⟩ := TP
          rw [hu] at hset
          simp only [] at hset ⊢
          rw [putAll_same (T' := T ++ [strL (fileText content)]) hs (fun t => by simp [or_comm]), putAll_append]
          cases hpa : putAll s T with
          | none => rw [hpa] at hset; simp only [] at hset; rw [if_pos hset]; rfl
          | some s1 =>
            rw [hpa] at hset
            simp only [] at hset
            rw [hset]
            simp only [Bool.true_eq_false, if_false, Option.bind_some]
            rw [putAll_one]
            by_cases hput : (putS s1 (strL (fileText content))).2.2 = true
            · rw [if_neg (by simp [hput]), if_pos hput]
            · rw [if_pos (by simpa using hput), if_neg hput]

end Go.Proofs.Ytfdhaigmekmboaa

/- Entries of folders as maps from names to prints: put, dropped, put again. No program in sight. -/
namespace Go.Proofs.Ytfdhaigmekmboaa
open Go.RowKit

abbrev Asc (l : List Ent) : Prop := l.Pairwise (fun a b => ltN a.name b.name = true)
theorem ltN_asym {a b : ByteArray} (h : ltN a b = true) : ltN b a = false := by
  cases hb : ltN b a
  · rfl
  · have := ltN_trans h hb; rw [ltN_irr] at this; cases this
theorem ent_ext : ∀ (a b : List Ent), Asc a → Asc b → (∀ x, x ∈ a ↔ x ∈ b) → a = b
  | [], [], _, _, _ => rfl
  | [], q :: u, _, _, h => by have := (h q).2 (by simp); simp at this
  | p :: r, [], _, _, h => by have := (h p).1 (by simp); simp at this
  | p :: r, q :: u, ha, hb, h => by
    obtain ⟨a1, a2⟩ := List.pairwise_cons.1 ha
    obtain ⟨b1, b2⟩ := List.pairwise_cons.1 hb
    have e : p = q := by
      rcases List.mem_cons.1 ((h p).1 (by simp)) with e | e
      · exact e
      · rcases List.mem_cons.1 ((h q).2 (by simp)) with e' | e'
        · exact e'.symm
        · have := ltN_asym (b1 p e); rw [a1 q e'] at this; cases this
    subst e
    rw [ent_ext r u a2 b2 (fun x => ⟨fun hx => by
      rcases List.mem_cons.1 ((h x).1 (List.mem_cons_of_mem _ hx)) with e | e
      · subst e; have := a1 x hx; rw [ltN_irr] at this; cases this
      · exact e, fun hx => by
      rcases List.mem_cons.1 ((h x).2 (List.mem_cons_of_mem _ hx)) with e | e
      · subst e; have := b1 x hx; rw [ltN_irr] at this; cases this
      · exact e⟩)]
theorem asc_name {l : List Ent} (h : Asc l) {i j : Nat} {x y : Ent} (hi : l[i]? = some x) (hj : l[j]? = some y) (hij : i < j) : ltN x.name y.name = true := by
  obtain ⟨h1, e1⟩ := List.getElem?_eq_some_iff.1 hi
  obtain ⟨h2, e2⟩ := List.getElem?_eq_some_iff.1 hj
  rw [← e1, ← e2]
  exact List.pairwise_iff_getElem.1 h i j h1 h2 hij
theorem entAt_from {l : List Ent} (h : Asc l) {nm : ByteArray} {j : Nat} {x : Ent} (hj : entAt l nm ≤ j) (hx : l[j]? = some x) : ltN x.name nm = false := by
  have hlt := (List.getElem?_eq_some_iff.1 hx).1
  have key : ∀ (l : List Ent) (y : Ent), l[entAt l nm]? = some y → ltN y.name nm = false := by
    intro l
    induction l with
    | nil => intro y hy; simp at hy
    | cons p r ih =>
      intro y hy
      unfold entAt at hy
      rw [List.takeWhile_cons] at hy
      by_cases hp : ltN p.name nm = true
      · rw [if_pos hp] at hy
        exact ih y (by simpa [entAt] using hy)
      · rw [if_neg hp] at hy
        simp at hy; subst hy; simpa using hp
  obtain ⟨y, hy⟩ : ∃ y, l[entAt l nm]? = some y := ⟨l[entAt l nm]'(by omega), List.getElem?_eq_getElem _⟩
  have h1 := key l y hy
  rcases Nat.lt_or_eq_of_le hj with h2 | h2
  · have h3 := asc_name h hy hx h2
    cases h4 : ltN x.name nm
    · rfl
    · have := ltN_trans h3 h4; rw [h1] at this; cases this
  · rw [h2, hx] at hy
    rw [Option.some.inj hy]; exact h1
/-- The entries behind a name's place. -/
def behind (l : List Ent) (nm : ByteArray) : List Ent := if isNm l nm (entAt l nm) then l.drop (entAt l nm + 1) else l.drop (entAt l nm)
theorem isNm_iff {l : List Ent} {nm : ByteArray} {k : Nat} : isNm l nm k = true ↔ ∃ x, l[k]? = some x ∧ x.name = nm := by
  unfold isNm
  cases l[k]? with
  | none => simp
  | some x => simp
theorem front_lt {l : List Ent} {nm : ByteArray} {x : Ent} (hx : x ∈ l.take (entAt l nm)) : ltN x.name nm = true := by
  obtain ⟨j, hj, e⟩ := List.getElem_of_mem hx
  have hj' : j < entAt l nm := by simp at hj; omega
  refine entAt_below hj' (x := x) ?_
  have : (l.take (entAt l nm))[j]? = some x := by rw [List.getElem?_eq_getElem hj, e]
  rwa [List.getElem?_take, if_pos hj'] at this
theorem behind_gt {l : List Ent} (h : Asc l) {nm : ByteArray} {x : Ent} (hx : x ∈ behind l nm) : ltN nm x.name = true := by
  unfold behind at hx
  have tot : ∀ j, entAt l nm ≤ j → l[j]? = some x → x.name ≠ nm → ltN nm x.name = true := by
    intro j hj hg hne
    have := entAt_from h hj hg
    rcases ltN_tot nm x.name with h1 | h1 | h1
    · exact h1
    · exact absurd h1.symm hne
    · rw [this] at h1; cases h1
  split at hx
  · rename_i hi
    obtain ⟨y, hy, hyn⟩ := isNm_iff.1 hi
    obtain ⟨j, hj, e⟩ := List.getElem_of_mem hx
    have hg : l[entAt l nm + 1 + j]? = some x := by
      rw [← List.getElem?_drop, List.getElem?_eq_getElem hj, e]
    have := asc_name h hy hg (by omega)
    rwa [hyn] at this
  · rename_i hi
    obtain ⟨j, hj, e⟩ := List.getElem_of_mem hx
    have hg : l[entAt l nm + j]? = some x := by
      rw [← List.getElem?_drop, List.getElem?_eq_getElem hj, e]
    refine tot _ (by omega) hg ?_
    rintro rfl
    rcases Nat.eq_zero_or_pos j with h0 | h0
    · subst h0
      exact hi (isNm_iff.2 ⟨x, hg, rfl⟩)
    · obtain ⟨y, hy⟩ : ∃ y, l[entAt l x.name]? = some y := ⟨l[entAt l x.name]'(by have := (List.getElem?_eq_some_iff.1 hg).1; omega), List.getElem?_eq_getElem _⟩
      have h1 := asc_name h hy hg (by omega)
      rw [entAt_from h (Nat.le_refl _) hy] at h1; cases h1
theorem mem_parts {l : List Ent} {nm : ByteArray} {x : Ent} : x ∈ l ↔ (x ∈ l.take (entAt l nm) ∨ x ∈ behind l nm ∨ (x.name = nm ∧ l[entAt l nm]? = some x)) := by
  constructor
  · intro hx
    rw [← List.take_append_drop (entAt l nm) l, List.mem_append] at hx
    rcases hx with hx | hx
    · exact .inl hx
    · right
      unfold behind
      by_cases hi : isNm l nm (entAt l nm) = true
      · rw [if_pos hi]
        obtain ⟨y, hy, hyn⟩ := isNm_iff.1 hi
        obtain ⟨hlt, e⟩ := List.getElem?_eq_some_iff.1 hy
        rw [List.drop_eq_getElem_cons hlt, e] at hx
        rcases List.mem_cons.1 hx with rfl | hx
        · exact .inr ⟨hyn, hy⟩
        · exact .inl hx
      · rw [if_neg hi]
        exact .inl hx
  · rintro (h | h | ⟨_, h⟩)
    · exact List.mem_of_mem_take h
    · unfold behind at h
      split at h <;> exact List.mem_of_mem_drop h
    · exact List.mem_of_getElem? h
theorem putE_eq (l : List Ent) (e : Ent) : putE l e = l.take (entAt l e.name) ++ e :: behind l e.name := by
  unfold putE behind
  split <;> simp
theorem putE_asc {l : List Ent} (h : Asc l) (e : Ent) : Asc (putE l e) := by
  rw [putE_eq]
  unfold Asc
  rw [List.pairwise_append]
  have hbe : Asc (behind l e.name) := by
    unfold behind
    split <;> exact h.sublist (List.drop_sublist _ _)
  refine ⟨h.sublist (List.take_sublist _ _), List.Pairwise.cons (fun x hx => behind_gt h hx) hbe, ?_⟩
  intro a ha b hb
  have h1 := front_lt ha
  rcases List.mem_cons.1 hb with rfl | hb
  · exact h1
  · exact ltN_trans h1 (behind_gt h hb)
theorem putE_mem {l : List Ent} (h : Asc l) {e x : Ent} : x ∈ putE l e ↔ (x = e ∨ (x ∈ l ∧ x.name ≠ e.name)) := by
  rw [putE_eq, List.mem_append, List.mem_cons]
  constructor
  · rintro (h1 | h1 | h1)
    · right
      have h2 := front_lt h1
      exact ⟨List.mem_of_mem_take h1, fun e' => by rw [e', ltN_irr] at h2; cases h2⟩
    · exact .inl h1
    · right
      have h2 := behind_gt h h1
      exact ⟨(mem_parts (nm := e.name)).2 (.inr (.inl h1)), fun e' => by rw [e', ltN_irr] at h2; cases h2⟩
  · rintro (h1 | ⟨h1, h2⟩)
    · exact .inr (.inl h1)
    · rcases (mem_parts (nm := e.name)).1 h1 with h3 | h3 | ⟨h3, _⟩
      · exact .inl h3
      · exact .inr (.inr h3)
      · exact absurd h3 h2
theorem ents_asc {l : List Ent} (h : entsOk l = true) : Asc l := (ents_iff.1 h).2.2
theorem ents_ext {a b : List Ent} (ha : entsOk a = true) (hb : entsOk b = true) (h : ∀ x, x ∈ a ↔ x ∈ b) : a = b := ent_ext a b (ents_asc ha) (ents_asc hb) h
theorem putE_first {l : List Ent} {e : Ent} (h : entsOk (putE l e) = true) : firstOf (putE l e) e.name = some e.print := by
  rw [first_iff h, putE_eq]
  simp
theorem putE_other {l : List Ent} {e : Ent} (hl : entsOk l = true) (h : entsOk (putE l e) = true) {nm : ByteArray} (hne : nm ≠ e.name) : firstOf (putE l e) nm = firstOf l nm := by
  apply Option.ext
  intro c
  rw [first_iff h, first_iff hl, putE_mem (ents_asc hl)]
  constructor
  · rintro (h1 | h1)
    · rw [← h1] at hne; exact absurd rfl hne
    · exact h1.1
  · intro h1; exact .inr ⟨h1, hne⟩
theorem nodup_len {l l' : List Ent} (ha : Asc l) (hb : Asc l') (h : ∀ x, x ∈ l → ∃ y ∈ l', y.name = x.name) : l.length ≤ l'.length := by
  have key : ∀ (a b : List ByteArray), a.Pairwise (fun x y => ltN x y = true) → b.Pairwise (fun x y => ltN x y = true) → (∀ x ∈ a, x ∈ b) → a.length ≤ b.length := by
    intro a
    induction a with
    | nil => intros; simp
    | cons p r ih =>
      intro b ha hb hm
      obtain ⟨a1, a2⟩ := List.pairwise_cons.1 ha
      induction b with
      | nil => have := hm p (by simp); simp at this
      | cons q u ihb =>
        obtain ⟨b1, b2⟩ := List.pairwise_cons.1 hb
        by_cases e : p = q
        · subst e
          have := ih u a2 b2 (fun x hx => by
            rcases List.mem_cons.1 (hm x (List.mem_cons_of_mem _ hx)) with e | e
            · subst e; have := a1 x hx; rw [ltN_irr] at this; cases this
            · exact e)
          simp; omega
        · have hp : p ∈ u := by
            rcases List.mem_cons.1 (hm p (by simp)) with e' | e'
            · exact absurd e' e
            · exact e'
          have hq := b1 p hp
          have := ihb b2 (fun x hx => by
            rcases List.mem_cons.1 (hm x hx) with e' | e'
            · exfalso
              subst e'
              rcases List.mem_cons.1 hx with e2 | e2
              · exact e e2.symm
              · have := ltN_asym (a1 x e2); rw [hq] at this; cases this
            · exact e')
          simp at this ⊢; omega
  have hmap : ∀ {l : List Ent}, Asc l → (l.map (·.name)).Pairwise (fun x y => ltN x y = true) := fun h => List.pairwise_map.2 h
  have := key (l.map (·.name)) (l'.map (·.name)) (hmap ha) (hmap hb) (fun x hx => by
    obtain ⟨y, hy, rfl⟩ := List.mem_map.1 hx
    obtain ⟨z, hz, hzn⟩ := h y hy
    exact List.mem_map.2 ⟨z, hz, hzn⟩)
  simpa using this
/-- A name that is there gets another print. -/
theorem putE_there {l : List Ent} {nm : ByteArray} {c ch : Int} (hl : entsOk l = true) (hf : firstOf l nm = some c) (hp : pv ch = true) : entsOk (putE l ⟨nm, ch⟩) = true := by
  obtain ⟨h1, h2, h3⟩ := ents_iff.1 hl
  refine ents_iff.2 ⟨?_, ?_, putE_asc h3 _⟩
  · refine Nat.le_trans (nodup_len (putE_asc h3 _) h3 (fun x hx => ?_)) h1
    rcases (putE_mem h3).1 hx with rfl | h4
    · exact ⟨_, first_mem hf, rfl⟩
    · exact ⟨x, h4.1, rfl⟩
  · intro x hx
    rcases (putE_mem h3).1 hx with rfl | h4
    · exact entOk_iff.2 ⟨(first_pv hl hf).1, hp⟩
    · exact h2 x h4.1
theorem putEnt_on {l : List Ent} {e : Ent} (hl : entsOk l = true) (h : entsOk (putE l e) = true) : putEnt l e = (putE l e, true) := by unfold putEnt; rw [if_pos hl, if_pos h]
theorem putE_same {l : List Ent} {nm : ByteArray} {c : Int} (hl : entsOk l = true) (hf : firstOf l nm = some c) : putE l ⟨nm, c⟩ = l := by
  refine ents_ext (putE_there hl hf (first_pv hl hf).2) hl (fun x => ?_)
  rw [putE_mem (ents_asc hl)]
  constructor
  · rintro (rfl | h1)
    · exact first_mem hf
    · exact h1.1
  · intro hx
    by_cases hn : x.name = nm
    · left
      obtain ⟨a, b⟩ := x
      simp only at hn
      subst hn
      have := (first_iff hl).2 hx
      rw [hf] at this
      rw [Option.some.inj this]
    · exact .inr ⟨hx, hn⟩
theorem putE_twice {l : List Ent} {nm : ByteArray} {a b : Int} (hl : Asc l) : putE (putE l ⟨nm, a⟩) ⟨nm, b⟩ = putE l ⟨nm, b⟩ := by
  have h1 := putE_asc hl ⟨nm, a⟩
  refine ent_ext _ _ (putE_asc h1 _) (putE_asc hl _) (fun x => ?_)
  rw [putE_mem h1, putE_mem hl, putE_mem hl]
  constructor
  · rintro (h | ⟨rfl | h, h2⟩)
    · exact .inl h
    · exact absurd rfl h2
    · exact .inr h
  · rintro (h | h)
    · exact .inl h
    · exact .inr ⟨.inr h, h.2⟩
theorem putE_swap {l : List Ent} {a b : Ent} (hl : Asc l) (hne : a.name ≠ b.name) : putE (putE l a) b = putE (putE l b) a := by
  have h1 := putE_asc hl a
  have h2 := putE_asc hl b
  refine ent_ext _ _ (putE_asc h1 _) (putE_asc h2 _) (fun x => ?_)
  rw [putE_mem h1, putE_mem hl, putE_mem h2, putE_mem hl]
  constructor
  · rintro (rfl | ⟨rfl | h, h3⟩)
    · exact .inr ⟨.inl rfl, Ne.symm hne⟩
    · exact .inl rfl
    · exact .inr ⟨.inr ⟨h.1, h3⟩, h.2⟩
  · rintro (rfl | ⟨rfl | h, h3⟩)
    · exact .inr ⟨.inl rfl, hne⟩
    · exact .inl rfl
    · exact .inr ⟨.inr ⟨h.1, h3⟩, h.2⟩
theorem dropE_mem {l : List Ent} {nm : ByteArray} {x : Ent} : x ∈ dropE l nm ↔ x ∈ l ∧ x.name ≠ nm := by unfold dropE; simp
theorem dropE_ok {l : List Ent} (hl : entsOk l = true) (nm : ByteArray) : entsOk (dropE l nm) = true := by
  obtain ⟨h1, h2, h3⟩ := ents_iff.1 hl
  exact ents_iff.2 ⟨Nat.le_trans (dropE_len l nm) h1, fun x hx => h2 x (dropE_mem.1 hx).1, h3.sublist List.filter_sublist⟩
theorem dropEnt_on {l : List Ent} (hl : entsOk l = true) (nm : ByteArray) : (dropEnt l nm).1 = dropE l nm := by unfold dropEnt; rw [if_pos hl]
theorem dropE_first {l : List Ent} (hl : entsOk l = true) (nm : ByteArray) : firstOf (dropE l nm) nm = none := by
  cases hf : firstOf (dropE l nm) nm with
  | none => rfl
  | some c => exact absurd rfl (dropE_mem.1 (first_mem hf)).2
theorem putE_drop {l : List Ent} {nm : ByteArray} {c : Int} (hl : entsOk l = true) (hf : firstOf l nm = some c) : putE (dropE l nm) ⟨nm, c⟩ = l := by
  have h1 := ents_asc (dropE_ok hl nm)
  refine ent_ext _ _ (putE_asc h1 _) (ents_asc hl) (fun x => ?_)
  rw [putE_mem h1, dropE_mem]
  constructor
  · rintro (rfl | h)
    · exact first_mem hf
    · exact h.1.1
  · intro hx
    by_cases hn : x.name = nm
    · left
      obtain ⟨a, b⟩ := x
      simp only at hn
      subst hn
      have := (first_iff hl).2 hx
      rw [hf] at this
      rw [Option.some.inj this]
    · exact .inr ⟨⟨hx, hn⟩, hn⟩

/-! ### Drops -/
/-- What a drop puts, the last folder first, and the first folder's print; none if all are empty then. -/
def dropT : List (List Ent × ByteArray) → Option (List ByteArray × Int)
  | [] => none
  | (es, nm) :: r => match dropT r with
    | none => if dropE es nm = [] then none else some ([strL (folderText (dropE es nm))], printOf (folderText (dropE es nm)))
    | some (T, ch) => some (T ++ [strL (folderText (putEnt es ⟨nm, ch⟩).1)], printOf (folderText (putEnt es ⟨nm, ch⟩).1))
/-- The same, with the root's folder put in any case. -/
def dropTs (FZ : List (List Ent × ByteArray)) : List ByteArray × Int := (dropT FZ).getD ([strL (folderText [])], printOf (folderText []))
/-- Each folder has its name. -/
def Named (FZ : List (List Ent × ByteArray)) : Prop := ∀ x ∈ FZ, entsOk x.1 = true ∧ ∃ c, firstOf x.1 x.2 = some c
theorem printOf_pv {l : List UInt8} (h : textOk l = true) : pv (printOf l) = true := printOf_in h
theorem dropT_pv : ∀ {FZ : List (List Ent × ByteArray)} {T : List ByteArray} {p : Int}, Named FZ → dropT FZ = some (T, p) → pv p = true
  | [], T, p, _, h => by cases h
  | (es, nm) :: r, T, p, hn, h => by
    have ho := hn (es, nm) (by simp)
    have hr : Named r := fun x hx => hn x (by simp [hx])
    unfold dropT at h
    cases hd : dropT r with
    | none =>
      rw [hd] at h
      simp only [] at h
      split at h
      · cases h
      · simp only [Option.some.injEq, Prod.mk.injEq] at h
        rw [← h.2]
        exact printOf_pv (folder_textOk (dropE_ok ho.1 nm))
    | some TP =>
      obtain ⟨T', ch⟩ := TP
      rw [hd] at h
      simp only [Option.some.injEq, Prod.mk.injEq] at h
      obtain ⟨c, hc⟩ := ho.2
      have hch := dropT_pv hr hd
      have := putE_there ho.1 hc hch
      rw [← h.2, putEnt_on ho.1 this]
      exact printOf_pv (folder_textOk this)

def putsTo (s : List Pc) (es : List Ent) (R : Option (List Pc)) : Prop := match R with | none => (putS s (strL (folderText es))).2.2 = false | some s' => putS s (strL (folderText es)) = (s', printOf (folderText es), true)
theorem putS_all {s : List Pc} {es : List Ent} (hs : storeOk s = true) : putsTo s es (putAll s [strL (folderText es)]) := by
  rw [putAll_one]
  unfold putsTo
  by_cases hp : (putS s (strL (folderText es))).2.2 = true
  · rw [if_pos hp]
    have := (put_get hs hp).2.2.1
    rw [bs_strL] at this
    simp only []
    rw [← this, ← hp]
  · rw [if_neg hp]
    simpa using hp

/-- The folders and names on a way that leads somewhere. -/
noncomputable def wayD (s : List Pc) : Int → List ByteArray → List (List Ent × ByteArray)
  | _, [] => []
  | pr, nm :: r => (entsOf (textAt s pr), nm) :: wayD s ((firstOf (entsOf (textAt s pr)) nm).getD (-1)) r
theorem entsOf_ok (l : List UInt8) : entsOk (entsOf l) = true := by
  unfold entsOf
  cases h : readFolder l with
  | none => rfl
  | some es => exact (readFolder_some h).1
theorem walk_named : ∀ (parts : List ByteArray) (s : List Pc) (pr : Int), (walkAt s pr parts).2 = true → Named (wayD s pr parts)
  | [], s, pr, _ => fun x hx => by simp [wayD] at hx
  | nm :: r, s, pr, h => by
    unfold walkAt at h
    unfold wayD
    cases hf : firstOf (entsOf (textAt s pr)) nm with
    | none => rw [hf] at h; cases h
    | some ch =>
      rw [hf] at h
      intro x hx
      rcases List.mem_cons.1 hx with rfl | hx
      · exact ⟨entsOf_ok _, ch, hf⟩
      · exact walk_named r s ch h x hx
theorem wayD_len : ∀ (parts : List ByteArray) (s : List Pc) (pr : Int), (wayD s pr parts).length = parts.length
  | [], _, _ => rfl
  | nm :: r, s, pr => by simp [wayD, wayD_len r]

theorem dropIn_eq {s : List Pc} (hs : storeOk s = true) : ∀ (parts : List ByteArray) (pr : Int), parts ≠ [] → Named (wayD s pr parts) →
    match dropT (wayD s pr parts) with
    | none => dropIn s pr parts = (s, -1, true)
    | some (T, p) => match putAll s T with
      | none => (dropIn s pr parts).2.2 = false
      | some s' => dropIn s pr parts = (s', p, true)
  | [], _, h, _ => absurd rfl h
  | nm :: rest, pr, _, hn => by
    have ho := hn (entsOf (textAt s pr), nm) (by simp [wayD])
    obtain ⟨c, hc⟩ := ho.2
    simp only at hc ho
    have hch : childOf (entsOf (textAt s pr)) nm = c := by rw [child_first ho.1, hc]; rfl
    have hc0 := (pv_iff.1 (first_pv ho.1 hc).2).1
    have hr : Named (wayD s c rest) := fun x hx => hn x (by simp only [wayD, hc, Option.getD_some, List.mem_cons]; exact .inr hx)
    have hwd : wayD s pr (nm :: rest) = (entsOf (textAt s pr), nm) :: wayD s c rest := by simp only [wayD, hc, Option.getD_some]
    rw [hwd]
    unfold dropT dropIn
    rw [hch, if_neg (show ¬ c < 0 by omega)]
    by_cases h0 : rest = []
    · subst h0
      rw [if_pos rfl]
      simp only [wayD, dropT]
      have hle : leftE (entsOf (textAt s pr)) nm (-1) = dropE (entsOf (textAt s pr)) nm := by unfold leftE; rw [if_neg (by omega), dropEnt_on ho.1]
      rw [hle]
      unfold dropEnd
      by_cases hd : dropE (entsOf (textAt s pr)) nm = []
      · rw [if_pos hd, if_pos hd]
      · rw [if_neg hd, if_neg hd]
        exact putS_all hs
    · rw [if_neg h0]
      have ih := dropIn_eq hs rest c h0 hr
      cases hd : dropT (wayD s c rest) with
      | none =>
        rw [hd] at ih
        simp only [] at ih ⊢
        rw [ih]
        simp only [Bool.true_eq_false, if_false]
        have hle : leftE (entsOf (textAt s pr)) nm (-1) = dropE (entsOf (textAt s pr)) nm := by unfold leftE; rw [if_neg (by omega), dropEnt_on ho.1]
        rw [hle]
        unfold dropEnd
        by_cases hde : dropE (entsOf (textAt s pr)) nm = []
        · rw [if_pos hde, if_pos hde]
        · rw [if_neg hde, if_neg hde]
          exact putS_all hs
      | some TP =>
        obtain ⟨T, p⟩ := TP
        rw [hd] at ih
        simp only [] at ih ⊢
        have hp := dropT_pv hr hd
        have hput := putE_there ho.1 hc hp
        have hle : leftE (entsOf (textAt s pr)) nm p = putE (entsOf (textAt s pr)) ⟨nm, p⟩ := by unfold leftE; rw [if_pos (pv_iff.1 hp).1, putEnt_on ho.1 hput]
        rw [putEnt_on ho.1 hput, putAll_append]
        cases hpa : putAll s T with
        | none =>
          rw [hpa] at ih
          simp only [] at ih
          rw [if_pos ih]
          rfl
        | some s1 =>
          rw [hpa] at ih
          simp only [] at ih
          rw [ih]
          simp only [Bool.true_eq_false, if_false, Option.bind_some]
          rw [hle]
          have hne : putE (entsOf (textAt s pr)) ⟨nm, p⟩ ≠ [] := by rw [putE_eq]; simp
          unfold dropEnd
          rw [if_neg hne]
          exact putS_all (putAll_le hs hpa).1

def droppedTo (R : List Pc × Int × Bool) (p : Int) (A : Option (List Pc)) : Prop := match A with | none => R.2.2 = false | some s' => R = (s', p, true)
/-- A drop: the way, and what is put on the way back. -/
noncomputable def dropOff (s : List Pc) (root : Int) (ws : List ByteArray) : Option (List Pc × Int) :=
  match putAll s (dropTs (wayD s root ws)).1 with
  | none => none
  | some s' => some (s', (dropTs (wayD s root ws)).2)
theorem dropAt_eq {s : List Pc} {root : Int} {path : List UInt8} {ws : List (List UInt8)} (hs : storeOk s = true) (hp : pathParts path = some ws) (h0 : ws ≠ []) (hw : (walkAt s root (ws.map strL)).2 = true) :
    dropAt s root path = match dropOff s root (ws.map strL) with | none => (s, root, false) | some (s', p) => (s', p, true) := by
  have hn := walk_named _ s root hw
  have hd := dropIn_eq hs (ws.map strL) root (by simpa using h0) hn
  have hto : droppedTo (dropTo s root (ws.map strL)) (dropTs (wayD s root (ws.map strL))).2 (putAll s (dropTs (wayD s root (ws.map strL))).1) := by
    unfold dropTs dropTo
    cases hdt : dropT (wayD s root (ws.map strL)) with
    | none =>
      rw [hdt] at hd
      simp only [] at hd
      rw [hd]
      simp only [Option.getD_none]
      rw [if_pos (show True ∧ (-1 : Int) < 0 from ⟨trivial, by omega⟩)]
      exact putS_all (es := []) hs
    | some TP =>
      obtain ⟨T, p⟩ := TP
      rw [hdt] at hd
      simp only [Option.getD_some] at hd ⊢
      have hpp := (pv_iff.1 (dropT_pv hn hdt)).1
      cases hpa : putAll s T with
      | none =>
        rw [hpa] at hd
        simp only [droppedTo] at hd ⊢
        rw [if_neg (by rw [hd]; simp), hd]
      | some s1 =>
        rw [hpa] at hd
        simp only [droppedTo] at hd ⊢
        rw [hd, if_neg (by simp; omega)]
  unfold dropAt
  rw [hp]
  simp only []
  rw [if_neg (fun h => h.elim (fun h => by rw [hs] at h; cases h) h0), if_neg (by rw [hw]; simp)]
  unfold dropOff
  cases hpa : putAll s (dropTs (wayD s root (ws.map strL))).1 with
  | none => rw [hpa] at hto; simp only [droppedTo] at hto ⊢; rw [if_pos hto]
  | some s1 => rw [hpa] at hto; simp only [droppedTo] at hto ⊢; rw [hto]; simp

end Go.Proofs.Ytfdhaigmekmboaa

/- Rows of pieces as a walk asks for them. No program in sight. -/
namespace Go.Proofs.Ytfdhaigmekmboaa
open Go.RowKit

abbrev encP (p : Pc) : List Value := [.int .i64 p.print, .string p.text]
abbrev Pcs := Rd encP 2
abbrev pcv (p : Pc) : Value := .agg #[.int .i64 p.print, .string p.text]
theorem Rd.pcs {w : World} {B n : Nat} {v : Value} {xs : List Pc} (h : Pcs w B v xs) (hn : xs.length = n) :
    ∃ a c, v = .slice a n c ∧ n ≤ c ∧ c ≤ 9223372036854775807 ∧
      ∀ i, i < n → ∃ (b o : Nat) (r : Int) (t : ByteArray), a = some ⟨b, o, none⟩ ∧ b < B ∧ Hid (xs[i]? = some ⟨r, t⟩) ∧ w.cell? ⟨b, o + i * 2, none⟩ = some (.int .i64 r) ∧ w.cell? ⟨b, o + i * 2 + 1, none⟩ = some (.string t) := by
  obtain ⟨a, c, hv, h1, h2, h3⟩ := Rd.openN h (fun _ => rfl) hn
  refine ⟨a, c, hv, h1, h2, fun i hi => ?_⟩
  obtain ⟨b, o, ⟨r, t⟩, ha, hb, hx, hc⟩ := h3 i hi
  exact ⟨b, o, r, t, ha, hb, hx, by simpa using hc 0 _ rfl, by simpa [Nat.add_assoc] using hc 1 _ rfl⟩
theorem flatP_get {xs : List Pc} {k : Nat} {x : Pc} (h : xs[k]? = some x) : (xs.flatMap encP)[k * 2]? = some (.int .i64 x.print) ∧ (xs.flatMap encP)[k * 2 + 1]? = some (.string x.text) :=
  ⟨by simpa using flatMap_get (enc := encP) (fun _ => rfl) xs k 0 x _ h rfl, flatMap_get (enc := encP) (fun _ => rfl) xs k 1 x _ h rfl⟩
theorem flatP_len (xs : List Pc) : (xs.flatMap encP).length = xs.length * 2 := by
  induction xs with
  | nil => rfl
  | cons x r ih => rw [List.flatMap_cons, List.length_append, ih]; simp; omega
theorem two_cells_of {w : World} {g : Nat} {t : TypeId} {x y : Value} (h : w.heap[g]? = some (.cells #[x, y] t (0, 0))) :
    w.cell? ⟨g, 0, none⟩ = some x ∧ w.cell? ⟨g, 1, none⟩ = some y ∧ w.frozen? ⟨g, 0, none⟩ = false ∧ w.frozen? ⟨g, 1, none⟩ = false := by
  refine ⟨?_, ?_, frozen_of_row _ _ _ _ _ h, frozen_of_row _ _ _ _ _ h⟩ <;> simp [World.cell?, h]
theorem row_onP {w w' : World} {base e k n : Nat} {v : Value} {cs : List Value} (h : w.ownsRow base e k v n cs) (hb : Below w.heap.size w w') : w'.ownsRow base e k v n cs := by
  refine ⟨h.1, ?_⟩
  rcases h.2 with h2 | ⟨g, cap, cur, hv, hg, hh, r⟩
  · exact .inl h2
  · exact .inr ⟨g, cap, cur, hv, hg, (hb.block g (Array.getElem?_eq_some_iff.1 hh).1).trans hh, r⟩

def szPcs (xs : List Pc) : Nat := (xs.map fun x => x.text.size).sum
theorem szPcs_succ {xs : List Pc} {k : Nat} {x : Pc} (h : xs[k]? = some x) : szPcs (xs.take (k + 1)) = szPcs (xs.take k) + x.text.size := by
  unfold szPcs; rw [take_snoc' h]; simp
theorem szPcs_take (xs : List Pc) (k : Nat) : szPcs (xs.take k) ≤ szPcs xs := by
  have : szPcs xs = szPcs (xs.take k) + szPcs (xs.drop k) := by
    unfold szPcs; rw [← List.sum_append, ← List.map_append, List.take_append_drop]
  omega
theorem szPcs_mem {xs : List Pc} {x : Pc} (h : x ∈ xs) : x.text.size ≤ szPcs xs := by
  obtain ⟨k, hk, rfl⟩ := List.getElem_of_mem h
  have h1 := szPcs_succ (List.getElem?_eq_getElem hk)
  have h2 := szPcs_take xs (k + 1)
  omega
/-- What is left of the measure: all fits, or not. -/
def szLeftP (left : Int) (xs : List Pc) : Int := if left < xs.length + szPcs xs then -1 else left - xs.length - szPcs xs

end Go.Proofs.Ytfdhaigmekmboaa

/- A region that draws its order and has guards that all let through, held by an invariant. No program in sight. -/
namespace Go.Proofs.Ytfdhaigmekmboaa
open Go.RowKit

section
variable {P : Program} {ops : Array Oper}
/-- Each operation's slot is its own. -/
def plainG (ops : Array Oper) : Bool :=
  (List.range ops.size).all fun i => match ops[i]? with
    | some o => (List.range ops.size).all fun j => j == i || (match ops[j]?, o.dst with | some o', some t => o'.dst != some t | _, _ => true)
    | none => true
theorem plainG_spec (h : plainG ops = true) {i : Nat} {o : Oper} (hi : ops[i]? = some o) : ∀ (j : Nat) (o' : Oper) (t : Tmp), ops[j]? = some o' → j ≠ i → o.dst = some t → o'.dst ≠ some t := by
  have hlt := (Array.getElem?_eq_some_iff.1 hi).1
  have h1 := List.all_eq_true.1 h i (List.mem_range.2 hlt)
  simp only [hi] at h1
  intro j o' t hj hne ht
  have hjl := (Array.getElem?_eq_some_iff.1 hj).1
  have h2 := List.all_eq_true.1 h1 j (List.mem_range.2 hjl)
  simp only [hj, ht, Bool.or_eq_true, beq_iff_eq, bne_iff_ne] at h2
  exact h2.resolve_left hne
/-- A guarded operation waits for its guard. -/
def guardB (ops : Array Oper) : Bool := (List.range ops.size).all fun i => match ops[i]? with
  | some o => (match o.guard with
    | some (d, _) => (o.after.any fun e => e.on == d && Region.binds .any e) && (match ops[d]? with | some od => od.dst.isSome | none => false)
    | none => true)
  | none => true
theorem guardB_spec (h : guardB ops = true) {i : Nat} {o : Oper} {d : Nat} {b : Bool} (hi : ops[i]? = some o) (hg : o.guard = some (d, b)) :
    ∃ e ∈ o.after, e.on = d ∧ Region.binds .any e = true ∧ ∃ od, ops[d]? = some od ∧ ∃ t, od.dst = some t := by
  have h1 := List.all_eq_true.1 h i (List.mem_range.2 (Array.getElem?_eq_some_iff.1 hi).1)
  simp only [hi, hg, Bool.and_eq_true] at h1
  obtain ⟨k, hk, hke⟩ := Array.any_eq_true.1 h1.1
  simp only [Bool.and_eq_true, beq_iff_eq] at hke
  refine ⟨o.after[k], Array.getElem_mem hk, hke.1, hke.2, ?_⟩
  cases hod : ops[d]? with
  | none => rw [hod] at h1; simp at h1
  | some od =>
    rw [hod] at h1
    have h3 := h1.2
    simp only at h3
    obtain ⟨t, ht⟩ := Option.isSome_iff_exists.1 h3
    exact ⟨od, rfl, t, ht⟩

theorem wp_region_inv2g {id : Nat} {Q : Exit → Act → World → Prop} {a0 : Act} {w0 : World} (hm : P.follows .mixedOrders = true) (hp : plainG ops = true) (hgB : guardB ops = true) (hback : backB ops = true) (hptr : ptrB ops = true)
    (hdst : (ops.all fun o => match o.dst with | some t => decide (t < a0.tmps.size) | none => true) = true)
    (J : Nat → World → Prop) (S : World → World → Prop) (F : Nat → Value → World → Prop) (hJ : J 0 w0.drew) (hF : ∀ i v w w', S w w' → F i v w → F i v w')
    (hgrd : ∀ (i : Nat) (o : Oper) (d : Nat) (b : Bool), ops[i]? = some o → o.guard = some (d, b) → ∀ v w, F d v w → v = .bool b)
    (hop : ∀ (i : Nat) (o : Oper), ops[i]? = some o → ∀ (n : Nat) (a : Act) (w : World), n < ops.size → J n w →
      (∀ t, freshB ops i t = true → a.tmps.getD t undef = a0.tmps.getD t undef) →
      (∀ e ∈ o.after, Region.binds .any e = true → F e.on (slotOf2 ops e.on a) w) →
      o.wp P a w (fun a' w' => ∃ v, a' = a.put o.dst v ∧ J (n + 1) w' ∧ S w w' ∧ F i (if o.dst.isSome then v else slotOf2 ops i a) w') Q)
    (hend : ∀ (a : Act) (w : World), J ops.size w → a.tmps.size = a0.tmps.size → a.defers = a0.defers → (∀ t, looseB ops t = true → a.tmps.getD t undef = a0.tmps.getD t undef) → (∀ (i : Nat) (o : Oper), ops[i]? = some o → F i (slotOf2 ops i a) w) → Q .normal a w) :
    (Code.region id ops true).wp P Q a0 w0 := by
  refine wp_region_any hm ?_
  have hdst' : ∀ (i : Nat) (o : Oper) (t : Tmp), ops[i]? = some o → o.dst = some t → t < a0.tmps.size := by
    intro i o t hi ht
    have hlt := (Array.getElem?_eq_some_iff.1 hi)
    obtain ⟨hlt, he⟩ := hlt
    have h1 := Array.all_eq_true.1 hdst i hlt
    rw [he, ht] at h1
    exact of_decide_eq_true h1
  have hback' : ∀ (i : Nat) (o : Oper), ops[i]? = some o → ∀ e ∈ o.after, Region.binds .any e = true → e.on < i := by
    intro i o hi e he hbe
    have h1 := List.all_eq_true.1 hback i (List.mem_range.2 (Array.getElem?_eq_some_iff.1 hi).1)
    simp only [hi] at h1
    obtain ⟨k, hk, hke⟩ := Array.getElem_of_mem he
    have h2 := Array.all_eq_true.1 h1 k hk
    rw [hke, hbe] at h2
    exact of_decide_eq_true (by simpa using h2)
  suffices H : ∀ (f n : Nat) (listed : Array Bool) (a : Act) (w : World), listed.size = ops.size → listed.toList.count false = f → n + f = ops.size → J n w → a.tmps.size = a0.tmps.size → a.defers = a0.defers →
      (∀ j o, ops[j]? = some o → listed.getD j false = true → ∀ e ∈ o.after, Region.binds .any e = true → listed.getD e.on false = true) →
      (∀ t, (∀ (i : Nat) (o : Oper), ops[i]? = some o → listed.getD i false = true → o.dst ≠ some t) → a.tmps.getD t undef = a0.tmps.getD t undef) →
      (∀ (i : Nat) (o : Oper), ops[i]? = some o → listed.getD i false = true → F i (slotOf2 ops i a) w) → wpAny P .any ops Q f listed a w by
    refine H _ 0 _ _ _ (by simp) (by simp) (by simp) hJ rfl rfl ?_ ?_ ?_
    · intro j o _ h; rw [getD_replicate_false] at h; cases h
    · intro t _; rfl
    · intro i o _ h; rw [getD_replicate_false] at h; cases h
  intro f
  induction f with
  | zero =>
    intro n listed a w hs hc hnf hj hsz hdf _ hsame hhold
    obtain rfl : n = ops.size := by omega
    have hall : ∀ i, i < ops.size → listed.getD i false = true := by
      intro i hi
      have hnot : false ∉ listed.toList := List.count_eq_zero.1 hc
      rw [Array.getD_eq_getD_getElem?, Array.getElem?_eq_getElem (by omega)]
      simp only [Option.getD_some]
      cases hv : listed[i]'(by omega) with
      | true => rfl
      | false => exact absurd (by rw [← hv]; simp) hnot
    refine ⟨?_, hend a w hj hsz hdf (fun t ht => hsame t fun i o hi _ => ?_) (fun i o hi => hhold i o hi (hall i (Array.getElem?_eq_some_iff.1 hi).1))⟩
    · rw [List.eq_nil_iff_forall_not_mem]
      intro i hi
      obtain ⟨h1, o, ho, _⟩ := mem_ready.1 hi
      have h2 := hall i (Array.getElem?_eq_some_iff.1 ho).1
      rw [Array.getD_eq_getD_getElem?, Array.getElem?_eq_getElem (by have := (Array.getElem?_eq_some_iff.1 ho).1; omega)] at h1 h2
      simp only [Option.getD_some] at h1 h2
      rw [h1] at h2; cases h2
    · have hl := Array.all_eq_true.1 ht i (Array.getElem?_eq_some_iff.1 hi).1
      rw [(Array.getElem?_eq_some_iff.1 hi).2] at hl
      simpa using hl
  | succ f ih =>
    intro n listed a w hs hc hnf hj hsz hdf hcl hsame hhold
    refine ⟨fun h0 => ?_, fun i hi => ?_⟩
    · exfalso
      have hmem : false ∈ listed.toList := List.count_pos_iff.1 (by omega)
      have hex : ∃ i, i < ops.size ∧ listed.getD i true = false := by
        obtain ⟨k, hk, hke⟩ := List.getElem_of_mem hmem
        refine ⟨k, by simpa [hs] using hk, ?_⟩
        rw [Array.getD_eq_getD_getElem?, Array.getElem?_eq_getElem (by simpa using hk)]
        simpa using hke
      obtain ⟨i, ⟨hi, hf⟩, hmin⟩ := exists_least hex
      have hr : i ∈ Region.ready .any ops listed := mem_ready.2 ⟨hf, ops[i], Array.getElem?_eq_getElem hi, fun e he hbe => by
        have hlt := hback' i _ (Array.getElem?_eq_getElem hi) e he hbe
        have := hmin e.on hlt
        rw [Array.getD_eq_getD_getElem?, Array.getElem?_eq_getElem (by omega)] at this ⊢
        simp only [Option.getD_some] at this ⊢
        cases hv : listed[e.on]'(by omega) with
        | true => rfl
        | false => exact absurd ⟨by omega, hv⟩ this⟩
      rw [h0] at hr; cases hr
    · obtain ⟨hun, o, ho, hdeps⟩ := mem_ready.1 hi
      have hil : i < listed.size := by rw [hs]; exact (Array.getElem?_eq_some_iff.1 ho).1
      have hunf : listed.getD i false = false := by
        rw [Array.getD_eq_getD_getElem?, Array.getElem?_eq_getElem hil] at hun ⊢
        simpa using hun
      have hslot := plainG_spec hp ho
      have hwant : Region.wanted o (yielded ops a.tmps) = true := by
        unfold Region.wanted
        cases hgd : o.guard with
        | none => rfl
        | some db =>
          obtain ⟨d, b⟩ := db
          obtain ⟨e, he, hed, hbe, od, hod, t, ht⟩ := guardB_spec hgB ho hgd
          have hl := hdeps e he hbe
          rw [hed] at hl
          have hv := hgrd i o d b ho hgd _ _ (hhold d od hod hl)
          have hs2 : slotOf2 ops d a = a.tmps.getD t undef := by unfold slotOf2; rw [hod]; simp [refOf, ht]
          rw [hs2] at hv
          have hy : yielded ops a.tmps d = some b := by
            unfold yielded
            rw [hod]
            simp only [Option.bind_some, ht]
            rw [Array.getD_eq_getD_getElem?] at hv
            cases hx : a.tmps[t]? with
            | none => rw [hx] at hv; simp [undef] at hv
            | some x => rw [hx] at hv; simp at hv; rw [hv]
          simp [hy]
      unfold wpOp
      simp only [ho]
      rw [if_pos hwant]
      refine .inl (Oper.wp_mono ?_ (hop i o ho n a w (by omega) hj (fun t ht => hsame t fun j o' hj' hl => ?_) (fun e he hbe => ?_)))
      · rintro a' w' ⟨v, rfl, hj', hS, hF'⟩
        have hother : ∀ j o', ops[j]? = some o' → j ≠ i → listed.getD j false = true → slotOf2 ops j (a.put o.dst v) = slotOf2 ops j a := by
          intro j o' hj2 hne hl
          unfold slotOf2
          rw [hj2]
          simp only [Option.bind_some]
          cases ht : refOf o' with
          | none => simp
          | some t =>
            simp only
            cases hd : o.dst with
            | none => simp [Act.put]
            | some u =>
              rw [getD_put _ _ _ _ (by rw [hsz]; exact hdst' i o u ho hd), if_neg]
              rintro rfl
              cases hod : o'.dst with
              | some t' =>
                simp only [refOf, hod, Option.some.injEq] at ht
                subst ht
                exact hslot j o' _ hj2 hne hd hod
              | none =>
                simp only [refOf, hod] at ht
                rcases ptrB_spec hptr hj2 hod ht with hall | ⟨e, he, hbe, o2, ho2, hd2⟩
                · exact hall i o ho hd
                · have hle := hcl j o' hj2 hl e he hbe
                  have hei : e.on ≠ i := by rintro h; rw [h, hunf] at hle; cases hle
                  exact hslot e.on o2 _ ho2 hei hd hd2
        have hget : ∀ j, (listed.setIfInBounds i true).getD j false = true → j = i ∨ listed.getD j false = true := by
          intro j hjl
          by_cases hji : j = i
          · exact .inl hji
          · right
            rw [Array.getD_eq_getD_getElem?, Array.getElem?_setIfInBounds_ne (Ne.symm hji)] at hjl
            rw [Array.getD_eq_getD_getElem?]; exact hjl
        have hget' : ∀ j, listed.getD j false = true → (listed.setIfInBounds i true).getD j false = true := by
          intro j hjl
          by_cases hji : j = i
          · rw [hji] at hjl; rw [hunf] at hjl; cases hjl
          · rw [Array.getD_eq_getD_getElem?, Array.getElem?_setIfInBounds_ne (Ne.symm hji)]
            rw [Array.getD_eq_getD_getElem?] at hjl; exact hjl
        refine ih (n + 1) _ _ _ (by simpa using hs) (by have := count_step listed i hun; omega) (by omega) hj' ?_ ?_ ?_ ?_ ?_
        · unfold Act.put; cases o.dst <;> simp [hsz]
        · unfold Act.put; cases o.dst <;> simp [hdf]
        · intro j oj hoj hl e he hbe
          rcases hget j hl with rfl | hl
          · obtain rfl : oj = o := Option.some.inj (hoj.symm.trans ho)
            exact hget' _ (hdeps e he hbe)
          · exact hget' _ (hcl j oj hoj hl e he hbe)
        · intro t ht
          have hne : o.dst ≠ some t := ht i o ho (by rw [Array.getD_eq_getD_getElem?, Array.getElem?_setIfInBounds_self_of_lt hil]; rfl)
          rw [← hsame t (fun j oj hoj hl => ht j oj hoj (hget' j hl))]
          cases hd : o.dst with
          | none => simp [Act.put]
          | some u =>
            rw [getD_put _ _ _ _ (by rw [hsz]; exact hdst' i o u ho hd), if_neg]
            rintro rfl
            exact hne hd
        · intro j oj hoj hl
          by_cases hji : j = i
          · subst hji
            obtain rfl : oj = o := Option.some.inj (hoj.symm.trans ho)
            have : slotOf2 ops j (a.put oj.dst v) = if oj.dst.isSome then v else slotOf2 ops j a := by
              cases hd : oj.dst with
              | none => simp [Act.put]
              | some u =>
                unfold slotOf2
                rw [hoj]
                simp only [Option.bind_some, refOf, hd]
                rw [getD_put _ _ _ _ (by rw [hsz]; exact hdst' j oj u hoj hd)]
                simp
            rw [this]; exact hF'
          · rcases hget j hl with h | hl
            · exact absurd h hji
            · rw [hother j oj hoj hji hl]
              exact hF j _ w w' hS (hhold j oj hoj hl)
      · have h1 := List.all_eq_true.1 ht j (List.mem_range.2 (Array.getElem?_eq_some_iff.1 hj').1)
        simp only [hj', Bool.or_eq_true, bne_iff_ne, beq_iff_eq] at h1
        rcases h1 with (h1 | h1) | h1
        · exact h1
        · subst h1; rw [hunf] at hl; cases hl
        · obtain ⟨o2, ho2, x, hx, hxb, hon⟩ := Region.waitsFor_spec h1
          obtain rfl : o2 = o' := Option.some.inj (ho2.symm.trans hj')
          have := hcl j o2 hj' hl x hx hxb
          rw [hon, hunf] at this; cases this
      · have hd := hdeps e he hbe
        have hlt := hback' i o ho e he hbe
        exact hhold e.on ops[e.on] (Array.getElem?_eq_getElem (by have := (Array.getElem?_eq_some_iff.1 ho).1; omega)) hd

theorem wp_region_inv3g {id : Nat} {Q : Exit → Act → World → Prop} {a0 : Act} {w0 : World} (hm : P.follows .mixedOrders = true) (hp : plainG ops = true) (hgB : guardB ops = true) (hback : backB ops = true) (hptr : ptrB ops = true)
    (hdst : (ops.all fun o => match o.dst with | some t => decide (t < a0.tmps.size) | none => true) = true)
    (J : Nat → World → Prop) (S : World → World → Prop) (F : Nat → Value → World → Prop) (hJ : J 0 w0.drew) (hF : ∀ i v w w', S w w' → F i v w → F i v w')
    (hgrd : ∀ (i : Nat) (o : Oper) (d : Nat) (b : Bool), ops[i]? = some o → o.guard = some (d, b) → ∀ v w, F d v w → v = .bool b)
    (hop : ∀ (i : Nat) (o : Oper), ops[i]? = some o → ∀ (n : Nat) (a : Act) (w : World), n < ops.size → J n w →
      (∀ t, freshB ops i t = true → a.tmps.getD t undef = a0.tmps.getD t undef) →
      (∀ e ∈ o.after, Region.binds .any e = true → F e.on (slotOf2 ops e.on a) w) →
      o.wp P a w (fun a' w' => ∃ v, a' = a.put o.dst v ∧ J (n + 1) w' ∧ S w w' ∧ F i (if o.dst.isSome then v else slotOf2 ops i a) w') Q)
    (hend : ∀ (tm : Array Value) (w : World), J ops.size w → (∀ (i : Nat) (o : Oper), ops[i]? = some o → F i (slotOf2 ops i ⟨tm, a0.defers⟩) w) → Q .normal ⟨refillL ops.toList a0.tmps tm, a0.defers⟩ w) :
    (Code.region id ops true).wp P Q a0 w0 := by
  refine wp_region_inv2g hm hp hgB hback hptr hdst J S F hJ hF hgrd hop ?_
  rintro ⟨tm, df⟩ w hj hsz hdf hb hFF
  obtain rfl : df = a0.defers := hdf
  have e := refill_eq hsz hb
  have := hend tm w hj hFF
  rw [← e] at this
  exact this

end
end Go.Proofs.Ytfdhaigmekmboaa

/- A region that draws its order, held by an invariant; an operation may use up what other ones' slots held. No program in sight. -/
namespace Go.Proofs.Ytfdhaigmekmboaa
open Go.RowKit

section
variable {P : Program} {ops : Array Oper}
theorem wp_region_inv2d {id : Nat} {Q : Exit → Act → World → Prop} {a0 : Act} {w0 : World} (hm : P.follows .mixedOrders = true) (hp : plainG ops = true) (hgB : guardB ops = true) (hback : backB ops = true) (hptr : ptrB ops = true)
    (hdst : (ops.all fun o => match o.dst with | some t => decide (t < a0.tmps.size) | none => true) = true)
    (J : Nat → World → Prop) (S : Nat → World → World → Prop) (F : Nat → Value → World → Prop) (cons : Nat → Nat → Bool) (hJ : J 0 w0.drew) (hF : ∀ j i v w w', S j w w' → cons j i = false → i ≠ j → Region.waitsFor .any ops i j = false → (∀ oj, ops[j]? = some oj → ∀ e ∈ oj.after, Region.binds .any e = true → cons e.on i = false) → F i v w → F i v w')
    (hgrd : ∀ (i : Nat) (o : Oper) (d : Nat) (b : Bool), ops[i]? = some o → o.guard = some (d, b) → ∀ v w, F d v w → v = .bool b)
    (hop : ∀ (i : Nat) (o : Oper), ops[i]? = some o → ∀ (n : Nat) (a : Act) (w : World), n < ops.size → J n w →
      (∀ t, freshB ops i t = true → a.tmps.getD t undef = a0.tmps.getD t undef) →
      (∀ e ∈ o.after, Region.binds .any e = true → (∀ j, j < ops.size → cons j e.on = true → j = i) → F e.on (slotOf2 ops e.on a) w) →
      o.wp P a w (fun a' w' => ∃ v, a' = a.put o.dst v ∧ J (n + 1) w' ∧ S i w w' ∧ F i (if o.dst.isSome then v else slotOf2 ops i a) w') Q)
    (hcg : ∀ (i : Nat) (o : Oper) (d : Nat) (b : Bool), ops[i]? = some o → o.guard = some (d, b) → ∀ j, cons j d = false)
    (hend : ∀ (a : Act) (w : World), J ops.size w → a.tmps.size = a0.tmps.size → a.defers = a0.defers → (∀ t, looseB ops t = true → a.tmps.getD t undef = a0.tmps.getD t undef) → (∀ (i : Nat) (o : Oper), ops[i]? = some o → (∀ j, cons j i = false) → F i (slotOf2 ops i a) w) → Q .normal a w) :
    (Code.region id ops true).wp P Q a0 w0 := by
  refine wp_region_any hm ?_
  have hdst' : ∀ (i : Nat) (o : Oper) (t : Tmp), ops[i]? = some o → o.dst = some t → t < a0.tmps.size := by
    intro i o t hi ht
    have hlt := (Array.getElem?_eq_some_iff.1 hi)
    obtain ⟨hlt, he⟩ := hlt
    have h1 := Array.all_eq_true.1 hdst i hlt
    rw [he, ht] at h1
    exact of_decide_eq_true h1
  have hback' : ∀ (i : Nat) (o : Oper), ops[i]? = some o → ∀ e ∈ o.after, Region.binds .any e = true → e.on < i := by
    intro i o hi e he hbe
    have h1 := List.all_eq_true.1 hback i (List.mem_range.2 (Array.getElem?_eq_some_iff.1 hi).1)
    simp only [hi] at h1
    obtain ⟨k, hk, hke⟩ := Array.getElem_of_mem he
    have h2 := Array.all_eq_true.1 h1 k hk
    rw [hke, hbe] at h2
    exact of_decide_eq_true (by simpa using h2)
  suffices H : ∀ (f n : Nat) (listed : Array Bool) (a : Act) (w : World), listed.size = ops.size → listed.toList.count false = f → n + f = ops.size → J n w → a.tmps.size = a0.tmps.size → a.defers = a0.defers →
      (∀ j o, ops[j]? = some o → listed.getD j false = true → ∀ e ∈ o.after, Region.binds .any e = true → listed.getD e.on false = true) →
      (∀ t, (∀ (i : Nat) (o : Oper), ops[i]? = some o → listed.getD i false = true → o.dst ≠ some t) → a.tmps.getD t undef = a0.tmps.getD t undef) →
      (∀ (i : Nat) (o : Oper), ops[i]? = some o → listed.getD i false = true → (∀ j, listed.getD j false = true → cons j i = false) → F i (slotOf2 ops i a) w) → wpAny P .any ops Q f listed a w by
    refine H _ 0 _ _ _ (by simp) (by simp) (by simp) hJ rfl rfl ?_ ?_ ?_
    · intro j o _ h; rw [getD_replicate_false] at h; cases h
    · intro t _; rfl
    · intro i o _ h; rw [getD_replicate_false] at h; cases h
  intro f
  induction f with
  | zero =>
    intro n listed a w hs hc hnf hj hsz hdf _ hsame hhold
    obtain rfl : n = ops.size := by omega
    have hall : ∀ i, i < ops.size → listed.getD i false = true := by
      intro i hi
      have hnot : false ∉ listed.toList := List.count_eq_zero.1 hc
      rw [Array.getD_eq_getD_getElem?, Array.getElem?_eq_getElem (by omega)]
      simp only [Option.getD_some]
      cases hv : listed[i]'(by omega) with
      | true => rfl
      | false => exact absurd (by rw [← hv]; simp) hnot
    refine ⟨?_, hend a w hj hsz hdf (fun t ht => hsame t fun i o hi _ => ?_) (fun i o hi hcn => hhold i o hi (hall i (Array.getElem?_eq_some_iff.1 hi).1) (fun j _ => hcn j))⟩
    · rw [List.eq_nil_iff_forall_not_mem]
      intro i hi
      obtain ⟨h1, o, ho, _⟩ := mem_ready.1 hi
      have h2 := hall i (Array.getElem?_eq_some_iff.1 ho).1
      rw [Array.getD_eq_getD_getElem?, Array.getElem?_eq_getElem (by have := (Array.getElem?_eq_some_iff.1 ho).1; omega)] at h1 h2
      simp only [Option.getD_some] at h1 h2
      rw [h1] at h2; cases h2
    · have hl := Array.all_eq_true.1 ht i (Array.getElem?_eq_some_iff.1 hi).1
      rw [(Array.getElem?_eq_some_iff.1 hi).2] at hl
      simpa using hl
  | succ f ih =>
    intro n listed a w hs hc hnf hj hsz hdf hcl hsame hhold
    refine ⟨fun h0 => ?_, fun i hi => ?_⟩
    · exfalso
      have hmem : false ∈ listed.toList := List.count_pos_iff.1 (by omega)
      have hex : ∃ i, i < ops.size ∧ listed.getD i true = false := by
        obtain ⟨k, hk, hke⟩ := List.getElem_of_mem hmem
        refine ⟨k, by simpa [hs] using hk, ?_⟩
        rw [Array.getD_eq_getD_getElem?, Array.getElem?_eq_getElem (by simpa using hk)]
        simpa using hke
      obtain ⟨i, ⟨hi, hf⟩, hmin⟩ := exists_least hex
      have hr : i ∈ Region.ready .any ops listed := mem_ready.2 ⟨hf, ops[i], Array.getElem?_eq_getElem hi, fun e he hbe => by
        have hlt := hback' i _ (Array.getElem?_eq_getElem hi) e he hbe
        have := hmin e.on hlt
        rw [Array.getD_eq_getD_getElem?, Array.getElem?_eq_getElem (by omega)] at this ⊢
        simp only [Option.getD_some] at this ⊢
        cases hv : listed[e.on]'(by omega) with
        | true => rfl
        | false => exact absurd ⟨by omega, hv⟩ this⟩
      rw [h0] at hr; cases hr
    · obtain ⟨hun, o, ho, hdeps⟩ := mem_ready.1 hi
      have hil : i < listed.size := by rw [hs]; exact (Array.getElem?_eq_some_iff.1 ho).1
      have hunf : listed.getD i false = false := by
        rw [Array.getD_eq_getD_getElem?, Array.getElem?_eq_getElem hil] at hun ⊢
        simpa using hun
      have hslot := plainG_spec hp ho
      have hwant : Region.wanted o (yielded ops a.tmps) = true := by
        unfold Region.wanted
        cases hgd : o.guard with
        | none => rfl
        | some db =>
          obtain ⟨d, b⟩ := db
          obtain ⟨e, he, hed, hbe, od, hod, t, ht⟩ := guardB_spec hgB ho hgd
          have hl := hdeps e he hbe
          rw [hed] at hl
          have hv := hgrd i o d b ho hgd _ _ (hhold d od hod hl (fun j _ => hcg i o d b ho hgd j))
          have hs2 : slotOf2 ops d a = a.tmps.getD t undef := by unfold slotOf2; rw [hod]; simp [refOf, ht]
          rw [hs2] at hv
          have hy : yielded ops a.tmps d = some b := by
            unfold yielded
            rw [hod]
            simp only [Option.bind_some, ht]
            rw [Array.getD_eq_getD_getElem?] at hv
            cases hx : a.tmps[t]? with
            | none => rw [hx] at hv; simp [undef] at hv
            | some x => rw [hx] at hv; simp at hv; rw [hv]
          simp [hy]
      unfold wpOp
      simp only [ho]
      rw [if_pos hwant]
      refine .inl (Oper.wp_mono ?_ (hop i o ho n a w (by omega) hj (fun t ht => hsame t fun j o' hj' hl => ?_) (fun e he hbe hcn => ?_)))
      · rintro a' w' ⟨v, rfl, hj', hS, hF'⟩
        have hother : ∀ j o', ops[j]? = some o' → j ≠ i → listed.getD j false = true → slotOf2 ops j (a.put o.dst v) = slotOf2 ops j a := by
          intro j o' hj2 hne hl
          unfold slotOf2
          rw [hj2]
          simp only [Option.bind_some]
          cases ht : refOf o' with
          | none => simp
          | some t =>
            simp only
            cases hd : o.dst with
            | none => simp [Act.put]
            | some u =>
              rw [getD_put _ _ _ _ (by rw [hsz]; exact hdst' i o u ho hd), if_neg]
              rintro rfl
              cases hod : o'.dst with
              | some t' =>
                simp only [refOf, hod, Option.some.injEq] at ht
                subst ht
                exact hslot j o' _ hj2 hne hd hod
              | none =>
                simp only [refOf, hod] at ht
                rcases ptrB_spec hptr hj2 hod ht with hall | ⟨e, he, hbe, o2, ho2, hd2⟩
                · exact hall i o ho hd
                · have hle := hcl j o' hj2 hl e he hbe
                  have hei : e.on ≠ i := by rintro h; rw [h, hunf] at hle; cases hle
                  exact hslot e.on o2 _ ho2 hei hd hd2
        have hget : ∀ j, (listed.setIfInBounds i true).getD j false = true → j = i ∨ listed.getD j false = true := by
          intro j hjl
          by_cases hji : j = i
          · exact .inl hji
          · right
            rw [Array.getD_eq_getD_getElem?, Array.getElem?_setIfInBounds_ne (Ne.symm hji)] at hjl
            rw [Array.getD_eq_getD_getElem?]; exact hjl
        have hget' : ∀ j, listed.getD j false = true → (listed.setIfInBounds i true).getD j false = true := by
          intro j hjl
          by_cases hji : j = i
          · rw [hji] at hjl; rw [hunf] at hjl; cases hjl
          · rw [Array.getD_eq_getD_getElem?, Array.getElem?_setIfInBounds_ne (Ne.symm hji)]
            rw [Array.getD_eq_getD_getElem?] at hjl; exact hjl
        refine ih (n + 1) _ _ _ (by simpa using hs) (by have := count_step listed i hun; omega) (by omega) hj' ?_ ?_ ?_ ?_ ?_
        · unfold Act.put; cases o.dst <;> simp [hsz]
        · unfold Act.put; cases o.dst <;> simp [hdf]
        · intro j oj hoj hl e he hbe
          rcases hget j hl with rfl | hl
          · obtain rfl : oj = o := Option.some.inj (hoj.symm.trans ho)
            exact hget' _ (hdeps e he hbe)
          · exact hget' _ (hcl j oj hoj hl e he hbe)
        · intro t ht
          have hne : o.dst ≠ some t := ht i o ho (by rw [Array.getD_eq_getD_getElem?, Array.getElem?_setIfInBounds_self_of_lt hil]; rfl)
          rw [← hsame t (fun j oj hoj hl => ht j oj hoj (hget' j hl))]
          cases hd : o.dst with
          | none => simp [Act.put]
          | some u =>
            rw [getD_put _ _ _ _ (by rw [hsz]; exact hdst' i o u ho hd), if_neg]
            rintro rfl
            exact hne hd
        · intro j oj hoj hl hcn
          by_cases hji : j = i
          · subst hji
            obtain rfl : oj = o := Option.some.inj (hoj.symm.trans ho)
            have : slotOf2 ops j (a.put oj.dst v) = if oj.dst.isSome then v else slotOf2 ops j a := by
              cases hd : oj.dst with
              | none => simp [Act.put]
              | some u =>
                unfold slotOf2
                rw [hoj]
                simp only [Option.bind_some, refOf, hd]
                rw [getD_put _ _ _ _ (by rw [hsz]; exact hdst' j oj u hoj hd)]
                simp
            rw [this]; exact hF'
          · rcases hget j hl with h | hl
            · exact absurd h hji
            · rw [hother j oj hoj hji hl]
              exact hF i j _ w w' hS (hcn i (by rw [Array.getD_eq_getD_getElem?, Array.getElem?_setIfInBounds_self_of_lt hil]; rfl)) hji (by
                cases hwt : Region.waitsFor .any ops j i
                · rfl
                · exfalso
                  obtain ⟨o2, ho2, x, hx, hxb, hon⟩ := Region.waitsFor_spec hwt
                  obtain rfl : o2 = oj := Option.some.inj (ho2.symm.trans hoj)
                  have := hcl j o2 hoj hl x hx hxb
                  rw [hon, hunf] at this; cases this) (fun oj' hoj' e he hbe => hcn e.on (hget' _ (by
                obtain rfl : oj' = o := Option.some.inj (hoj'.symm.trans ho)
                exact hdeps e he hbe))) (hhold j oj hoj hl (fun q hq => hcn q (hget' q hq)))
      · have h1 := List.all_eq_true.1 ht j (List.mem_range.2 (Array.getElem?_eq_some_iff.1 hj').1)
        simp only [hj', Bool.or_eq_true, bne_iff_ne, beq_iff_eq] at h1
        rcases h1 with (h1 | h1) | h1
        · exact h1
        · subst h1; rw [hunf] at hl; cases hl
        · obtain ⟨o2, ho2, x, hx, hxb, hon⟩ := Region.waitsFor_spec h1
          obtain rfl : o2 = o' := Option.some.inj (ho2.symm.trans hj')
          have := hcl j o2 hj' hl x hx hxb
          rw [hon, hunf] at this; cases this
      · have hd := hdeps e he hbe
        have hlt := hback' i o ho e he hbe
        refine hhold e.on ops[e.on] (Array.getElem?_eq_getElem (by have := (Array.getElem?_eq_some_iff.1 ho).1; omega)) hd (fun q hq => ?_)
        have hqs : q < ops.size := by
          by_cases h : q < ops.size
          · exact h
          · rw [Array.getD_eq_getD_getElem?, Array.getElem?_eq_none (by omega)] at hq; simp at hq
        cases hc : cons q e.on
        · rfl
        · have hqi := hcn q hqs hc
          subst hqi
          rw [hunf] at hq; cases hq

theorem wp_region_inv3d {id : Nat} {Q : Exit → Act → World → Prop} {a0 : Act} {w0 : World} (hm : P.follows .mixedOrders = true) (hp : plainG ops = true) (hgB : guardB ops = true) (hback : backB ops = true) (hptr : ptrB ops = true)
    (hdst : (ops.all fun o => match o.dst with | some t => decide (t < a0.tmps.size) | none => true) = true)
    (J : Nat → World → Prop) (S : Nat → World → World → Prop) (F : Nat → Value → World → Prop) (cons : Nat → Nat → Bool) (hJ : J 0 w0.drew) (hF : ∀ j i v w w', S j w w' → cons j i = false → i ≠ j → Region.waitsFor .any ops i j = false → (∀ oj, ops[j]? = some oj → ∀ e ∈ oj.after, Region.binds .any e = true → cons e.on i = false) → F i v w → F i v w')
    (hgrd : ∀ (i : Nat) (o : Oper) (d : Nat) (b : Bool), ops[i]? = some o → o.guard = some (d, b) → ∀ v w, F d v w → v = .bool b)
    (hop : ∀ (i : Nat) (o : Oper), ops[i]? = some o → ∀ (n : Nat) (a : Act) (w : World), n < ops.size → J n w →
      (∀ t, freshB ops i t = true → a.tmps.getD t undef = a0.tmps.getD t undef) →
      (∀ e ∈ o.after, Region.binds .any e = true → (∀ j, j < ops.size → cons j e.on = true → j = i) → F e.on (slotOf2 ops e.on a) w) →
      o.wp P a w (fun a' w' => ∃ v, a' = a.put o.dst v ∧ J (n + 1) w' ∧ S i w w' ∧ F i (if o.dst.isSome then v else slotOf2 ops i a) w') Q)
    (hcg : ∀ (i : Nat) (o : Oper) (d : Nat) (b : Bool), ops[i]? = some o → o.guard = some (d, b) → ∀ j, cons j d = false)
    (hend : ∀ (tm : Array Value) (w : World), J ops.size w → (∀ (i : Nat) (o : Oper), ops[i]? = some o → (∀ j, cons j i = false) → F i (slotOf2 ops i ⟨tm, a0.defers⟩) w) → Q .normal ⟨refillL ops.toList a0.tmps tm, a0.defers⟩ w) :
    (Code.region id ops true).wp P Q a0 w0 := by
  refine wp_region_inv2d hm hp hgB hback hptr hdst J S F cons hJ hF hgrd hop hcg ?_
  rintro ⟨tm, df⟩ w hj hsz hdf hb hFF
  obtain rfl : df = a0.defers := hdf
  have e := refill_eq hsz hb
  have := hend tm w hj hFF
  rw [← e] at this
  exact this

end
end Go.Proofs.Ytfdhaigmekmboaa

/- Walks of the exact laws' own helpers at slices of numbers and bools: copies, comparisons, marks. -/
namespace Go.Proofs.Ytfdhaigmekmboaa
open Go.RowKit


/-- The marks k, k + 1, .. -/
def marks (k : Int) (n : Nat) : List Int := (List.range n).map fun (j : Nat) => k + j
theorem marks_len (k : Int) (n : Nat) : (marks k n).length = n := by simp [marks]
theorem marks_get (k : Int) (n j : Nat) (h : j < n) : (marks k n)[j]? = some (k + j) := by simp [marks, h]
theorem marks_cell (k : Int) (n j : Nat) (h : j < n) : ((marks k n).flatMap encI)[j]? = some (.int .i64 (k + j)) := by
  have := flatMap_get (enc := encI) (fun _ => rfl) (marks k n) j 0 _ _ (marks_get k n j h) rfl
  simpa using this
theorem flat_len1 {α : Type} (f : α → Value) (xs : List α) : (xs.flatMap fun x => [f x]).length = xs.length := by rw [← List.map_eq_flatMap, List.length_map]



def EqPost (r : Bool) (w : World) (e : Ending) (w' : World) : Prop := e = .returned (.bool r) ∧ ∃ n, w' = w.drewN n




end Go.Proofs.Ytfdhaigmekmboaa

/- Walks: the text of a mark. -/
namespace Go.Proofs.Ytfdhaigmekmboaa
open Go.RowKit

def digs : Nat → Nat → ByteArray → ByteArray
  | 0, _, out => out
  | f + 1, k, out => if k = 0 then out else digs f (k / 10) (⟨#[UInt8.ofNat (48 + k % 10)]⟩ ++ out)
def markT (k : Int) : ByteArray := if k ≤ 0 then ⟨#[109, 48]⟩ else ⟨#[109]⟩ ++ digs 18 k.toNat ⟨#[]⟩
theorem digs_zero : ∀ (f : Nat) (out : ByteArray), digs f 0 out = out
  | 0, _ => rfl
  | f + 1, out => by simp [digs]
theorem digs_step {f k : Nat} (h : 0 < k) (out : ByteArray) : digs (f + 1) k out = digs f (k / 10) (⟨#[UInt8.ofNat (48 + k % 10)]⟩ ++ out) := by
  rw [digs, if_neg (by omega)]
theorem digs_size : ∀ (f k : Nat) (out : ByteArray), (digs f k out).size ≤ out.size + f
  | 0, k, out => by simp [digs]
  | f + 1, k, out => by
    rw [digs]
    split
    · omega
    · have := digs_size f (k / 10) (⟨#[UInt8.ofNat (48 + k % 10)]⟩ ++ out)
      rw [ByteArray.size_append] at this
      have e : (⟨#[UInt8.ofNat (48 + k % 10)]⟩ : ByteArray).size = 1 := rfl
      omega
theorem markT_size (k : Int) : (markT k).size ≤ 20 := by
  unfold markT
  split
  · decide
  · rw [ByteArray.size_append]
    have := digs_size 18 k.toNat ⟨#[]⟩
    have e : (⟨#[109]⟩ : ByteArray).size = 1 := rfl
    have e2 : (⟨#[]⟩ : ByteArray).size = 0 := rfl
    omega



end Go.Proofs.Ytfdhaigmekmboaa

/- Walks of the exact laws' own helpers at slices of texts: copies, comparisons, marks, measures. -/
namespace Go.Proofs.Ytfdhaigmekmboaa
open Go.RowKit

theorem Rd.strs {w : World} {B n : Nat} {v : Value} {xs : List ByteArray} (h : Strs w B v xs) (hn : xs.length = n) :
    ∃ a c, v = .slice a n c ∧ n ≤ c ∧ c ≤ 9223372036854775807 ∧
      ∀ i, i < n → ∃ b o x, a = some ⟨b, o, none⟩ ∧ b < B ∧ Hid (xs[i]? = some x) ∧ w.cell? ⟨b, o + i, none⟩ = some (.string x) := by
  obtain ⟨a, c, hv, h1, h2, h3⟩ := Rd.openN h (fun _ => rfl) hn
  refine ⟨a, c, hv, h1, h2, fun i hi => ?_⟩
  obtain ⟨b, o, x, ha, hb, hx, hc⟩ := h3 i hi
  exact ⟨b, o, x, ha, hb, hx, by simpa using hc 0 _ rfl⟩


/-- The texts of the marks k, k + 1, .. -/
def marksS (k : Int) (n : Nat) : List ByteArray := (List.range n).map fun (j : Nat) => markT (k + j)
theorem marksS_len (k : Int) (n : Nat) : (marksS k n).length = n := by simp [marksS]
theorem marksS_get (k : Int) (n j : Nat) (h : j < n) : (marksS k n)[j]? = some (markT (k + j)) := by simp [marksS, h]
theorem marksS_cell (k : Int) (n j : Nat) (h : j < n) : ((marksS k n).flatMap encS)[j]? = some (.string (markT (k + j))) := by
  have := flatMap_get (enc := encS) (fun _ => rfl) (marksS k n) j 0 _ _ (marksS_get k n j h) rfl
  simpa using this
theorem row_onS {w w' : World} {base e k n : Nat} {v : Value} {cs : List Value} (h : w.ownsRow base e k v n cs) (hb : Below w.heap.size w w') : w'.ownsRow base e k v n cs := by
  refine ⟨h.1, ?_⟩
  rcases h.2 with h2 | ⟨g, cap, cur, hv, hg, hh, r⟩
  · exact .inl h2
  · exact .inr ⟨g, cap, cur, hv, hg, (hb.block g (Array.getElem?_eq_some_iff.1 hh).1).trans hh, r⟩




def szStrs (xs : List ByteArray) : Nat := (xs.map fun x => x.size).sum
theorem szStrs_succ {xs : List ByteArray} {k : Nat} {x : ByteArray} (h : xs[k]? = some x) : szStrs (xs.take (k + 1)) = szStrs (xs.take k) + x.size := by
  unfold szStrs; rw [take_snoc' h]; simp
theorem szStrs_take (xs : List ByteArray) (k : Nat) : szStrs (xs.take k) ≤ szStrs xs := by
  have : szStrs xs = szStrs (xs.take k) + szStrs (xs.drop k) := by
    unfold szStrs; rw [← List.sum_append, ← List.map_append, List.take_append_drop]
  omega
theorem szStrs_mem {xs : List ByteArray} {x : ByteArray} (h : x ∈ xs) : x.size ≤ szStrs xs := by
  obtain ⟨k, hk, rfl⟩ := List.getElem_of_mem h
  have h1 := szStrs_succ (List.getElem?_eq_getElem hk)
  have h2 := szStrs_take xs (k + 1)
  omega
def szLeftS (left : Int) (xs : List ByteArray) : Int := if left < xs.length + szStrs xs then -1 else left - xs.length - szStrs xs


theorem push_str {ops : Array Oper} {rest : List Oper} {o : Oper} {a : Act} {Q : Exit → Act → World → Prop} {w0 wr : World} (hgd : o.guard = none) (s x : Operand) (ho : o.op = .call { callee := .builtin .append, args := #[s, x], argTypes := #[27, 27] }) (B B0 : Nat) (v : Value) (acc : List ByteArray) (y : ByteArray)
    (hown : OwnS wr B v acc) (hb : Below B0 w0 wr) (hB : B ≤ wr.heap.size) (hB0 : B0 ≤ B) (hs : a.eval s = v) (hx : a.eval x = .slice (some ⟨wr.heap.size, 0, none⟩) 1 1) (hn : acc.length < 1099511627775)
    (h : ∀ v' w', OwnS w' B v' (acc ++ [y]) → Below B0 w0 w' → B ≤ w'.heap.size → wr.grownBy w' v.ownBlock ∧ (∀ g, v'.ownBlock = some g → v.ownBlock = some g ∨ wr.heap.size ≤ g) → wpList Try.prog ops Q rest (a.put o.dst v') w') :
    wpList Try.prog ops Q (o :: rest) a (wr.alloc (.cells #[.string y] 9)) := by
  obtain ⟨i0, hi, hz0, hz1, hz2⟩ := info_parts info_string
  exact wpList_push (enc := encS) hgd s x 27 ho B B0 9 i0 _ 1 16 Try.underlying27 hi hz0 hz1 hz2 rfl (by decide) v acc y hown hb hB hB0 hs hx rfl (by simp [Value.oneCell']) hn (by decide) h

end Go.Proofs.Ytfdhaigmekmboaa
