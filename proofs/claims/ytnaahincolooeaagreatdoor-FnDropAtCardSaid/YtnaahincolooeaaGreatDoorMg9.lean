/- Walks and plain facts, joined: PutP, FoldP, InvV, Pcs. -/
import Derived.Test.YtnaahincolooeaaGreatDoorMg2
import Derived.Test.YtnaahincolooeaaGreatDoorMg8
set_option linter.unusedVariables false
set_option linter.unusedSimpArgs false

/- Plain facts on texts that are put into stores. No program in sight. -/
namespace Go.Proofs.YtnaahincolooeaaGreatDoor
open Go.RowKit

theorem getP_no {l : List Pc} {n : Int} (h : getP l n = none) : ∀ x ∈ l, x.print ≠ n := by
  intro x hx he
  have : hasP l n = true := hasP_iff.2 ⟨x, hx, he⟩
  unfold hasP at this
  rw [h] at this
  cases this
theorem st_find {l : List Pc} {n : Int} (h : storeOk l = true) (hh : hasP l n = true) : ∃ x : Pc, l[findAt l n]? = some x ∧ getP l n = some x.text ∧ x.print = n := by
  cases hg : l[findAt l n]? with
  | none =>
    exfalso
    have := find_no (l := l) (n := n) (st_asc h) (fun z hz => by rw [hg] at hz; cases hz)
    unfold hasP at hh
    rw [this] at hh
    cases hh
  | some z =>
    by_cases hz : z.print = n
    · exact ⟨z, rfl, find_has (st_asc h) hg hz, hz⟩
    · exfalso
      have := find_no (l := l) (n := n) (st_asc h) (fun z' hz' => by rw [hg] at hz'; rw [← Option.some.inj hz']; exact hz)
      unfold hasP at hh
      rw [this] at hh
      cases hh

/-- A row with a piece in its place. -/
def insP (l : List Pc) (p : Int) (t : ByteArray) : List Pc := l.take (findAt l p) ++ ⟨p, t⟩ :: l.drop (findAt l p)
theorem insP_len (l : List Pc) (p : Int) (t : ByteArray) : (insP l p t).length = l.length + 1 := by
  have := findAt_le l p
  simp [insP]; omega
theorem insP_mem {l : List Pc} {p : Int} {t : ByteArray} {x : Pc} : x ∈ insP l p t ↔ x ∈ l ∨ x = ⟨p, t⟩ := by
  unfold insP
  rw [List.mem_append, List.mem_cons]
  constructor
  · rintro (h | h | h)
    · exact .inl (List.mem_of_mem_take h)
    · exact .inr h
    · exact .inl (List.mem_of_mem_drop h)
  · rintro (h | h)
    · rw [← List.take_append_drop (findAt l p) l, List.mem_append] at h
      rcases h with h | h
      · exact .inl h
      · exact .inr (.inr h)
    · exact .inr (.inl h)
theorem insP_asc {l : List Pc} {p : Int} {t : ByteArray} (ha : l.Pairwise (fun a b => a.print < b.print)) (hn : getP l p = none) : (insP l p t).Pairwise (fun a b => a.print < b.print) := by
  have h1 : ∀ a ∈ l.take (findAt l p), a.print < p := by
    intro a hm
    obtain ⟨j, hj, e⟩ := List.getElem_of_mem hm
    have hj' : j < findAt l p := by simp at hj; omega
    have hg : l[j]? = some a := by
      rw [← List.getElem?_take_of_lt hj', List.getElem?_eq_getElem hj, e]
    exact findAt_below hj' hg
  have h2 : ∀ b ∈ l.drop (findAt l p), p < b.print := by
    intro b hm
    obtain ⟨j, hj, e⟩ := List.getElem_of_mem hm
    have hg : l[findAt l p + j]? = some b := by rw [← List.getElem?_drop, List.getElem?_eq_getElem hj, e]
    obtain ⟨y, hy⟩ : ∃ y, l[findAt l p]? = some y := ⟨l[findAt l p]'(by have := (List.getElem?_eq_some_iff.1 hg).1; omega), List.getElem?_eq_getElem _⟩
    have h3 := findAt_at hy
    have h4 := getP_no hn b (List.mem_of_getElem? hg)
    rcases Nat.eq_zero_or_pos j with h0 | h0
    · subst h0
      rw [Nat.add_zero, hy] at hg
      have := Option.some.inj hg
      subst this
      omega
    · have := asc_get ha hy hg (by omega)
      omega
  unfold insP
  rw [List.pairwise_append]
  refine ⟨ha.sublist (List.take_sublist _ _), List.Pairwise.cons h2 (ha.sublist (List.drop_sublist _ _)), ?_⟩
  intro a hma b hmb
  rcases List.mem_cons.1 hmb with rfl | hmb
  · exact h1 a hma
  · have := h1 a hma; have := h2 b hmb; omega

/-- A store behind a put text, the print, and whether it was put. -/
def putS (l : List Pc) (t : ByteArray) : List Pc × Int × Bool :=
  if storeOk l then
    if textOk (bs t) then
      match getP l (printOf (bs t)) with
      | some u => if u = t then (l, printOf (bs t), true) else (l, -1, false)
      | none => if l.length = 40 then (l, -1, false) else (insP l (printOf (bs t)) t, printOf (bs t), true)
    else (l, -1, false)
  else ([], -1, false)
theorem put_off {l : List Pc} {t : ByteArray} (h : storeOk l = false) : putS l t = ([], -1, false) := by unfold putS; rw [h]; rfl
theorem put_bad {l : List Pc} {t : ByteArray} (h : storeOk l = true) (ht : textOk (bs t) = false) : putS l t = (l, -1, false) := by unfold putS; rw [h, ht]; rfl
theorem put_there {l : List Pc} {t : ByteArray} (h : storeOk l = true) (ht : textOk (bs t) = true) (hg : getP l (printOf (bs t)) = some t) : putS l t = (l, printOf (bs t), true) := by unfold putS; rw [h, ht, hg]; simp
theorem put_other {l : List Pc} {t u : ByteArray} (h : storeOk l = true) (ht : textOk (bs t) = true) (hg : getP l (printOf (bs t)) = some u) (hu : u ≠ t) : putS l t = (l, -1, false) := by unfold putS; rw [h, ht, hg]; simp [hu]
theorem put_full {l : List Pc} {t : ByteArray} (h : storeOk l = true) (ht : textOk (bs t) = true) (hg : getP l (printOf (bs t)) = none) (hl : l.length = 40) : putS l t = (l, -1, false) := by unfold putS; rw [h, ht, hg]; simp [hl]
theorem put_new {l : List Pc} {t : ByteArray} (h : storeOk l = true) (ht : textOk (bs t) = true) (hg : getP l (printOf (bs t)) = none) (hl : l.length ≠ 40) : putS l t = (insP l (printOf (bs t)) t, printOf (bs t), true) := by unfold putS; rw [h, ht, hg]; simp [hl]
theorem put_cases {l : List Pc} {t : ByteArray} (h : storeOk l = true) :
    (putS l t = (l, -1, false)) ∨ (textOk (bs t) = true ∧ getP l (printOf (bs t)) = some t ∧ putS l t = (l, printOf (bs t), true)) ∨
    (textOk (bs t) = true ∧ getP l (printOf (bs t)) = none ∧ l.length < 40 ∧ putS l t = (insP l (printOf (bs t)) t, printOf (bs t), true)) := by
  cases ht : textOk (bs t)
  · exact .inl (put_bad h ht)
  · cases hg : getP l (printOf (bs t)) with
    | some u =>
      by_cases hu : u = t
      · subst hu; exact .inr (.inl ⟨rfl, rfl, put_there h ht hg⟩)
      · exact .inl (put_other h ht hg hu)
    | none =>
      by_cases hl : l.length = 40
      · exact .inl (put_full h ht hg hl)
      · have := (st_in h).1
        exact .inr (.inr ⟨rfl, rfl, by omega, put_new h ht hg hl⟩)
theorem put_ok {l : List Pc} {t : ByteArray} (h : storeOk l = true) : storeOk (putS l t).1 = true := by
  rcases put_cases (t := t) h with e | ⟨_, _, e⟩ | ⟨ht, hg, hl, e⟩
  · rw [e]; exact h
  · rw [e]; exact h
  · rw [e]
    refine st_iff.2 ⟨by rw [insP_len]; omega, fun x hx => ?_, insP_asc (st_asc h) hg⟩
    rcases insP_mem.1 hx with hx | rfl
    · exact st_all h hx
    · exact pcOk_iff.2 ⟨ht, rfl⟩
/-- What was put has the text's print. -/
theorem put_print {l : List Pc} {t : ByteArray} (h : (putS l t).2.2 = true) : textOk (bs t) = true ∧ (putS l t).2.1 = printOf (bs t) := by
  cases hs : storeOk l
  · rw [put_off hs] at h; cases h
  · rcases put_cases (t := t) hs with e | ⟨ht, _, e⟩ | ⟨ht, _, _, e⟩
    · rw [e] at h; cases h
    · rw [e]; exact ⟨ht, rfl⟩
    · rw [e]; exact ⟨ht, rfl⟩

def takeStep (ps : List Int) (s : List Pc × Nat) (t : ByteArray) : List Pc × Nat := if (putS s.1 t).2.2 && hasI ps (putS s.1 t).2.1 then ((putS s.1 t).1, s.2) else (s.1, s.2 + 1)
def takeFrom (l : List Pc) (ps : List Int) (ts : List ByteArray) : List Pc × Nat := ts.foldl (takeStep ps) (l, 0)
def takeTexts (l : List Pc) (ps : List Int) (ts : List ByteArray) : List Pc × Int := if storeOk l then ((takeFrom l ps ts).1, ((takeFrom l ps ts).2 : Int)) else ([], -1)
theorem takeFrom_succ {l : List Pc} {ps : List Int} {ts : List ByteArray} {k : Nat} {t : ByteArray} (h : ts[k]? = some t) : takeFrom l ps (ts.take (k + 1)) = takeStep ps (takeFrom l ps (ts.take k)) t := foldl_succ _ _ h
theorem takeStep_ok {ps : List Int} {s : List Pc × Nat} {t : ByteArray} (h : storeOk s.1 = true) : storeOk (takeStep ps s t).1 = true := by
  unfold takeStep
  split
  · exact put_ok h
  · exact h
theorem takeStep_le {ps : List Int} {s : List Pc × Nat} {t : ByteArray} : (takeStep ps s t).2 ≤ s.2 + 1 := by
  unfold takeStep
  split <;> simp
theorem takes_ok {ps : List Int} : ∀ (ts : List ByteArray) (s : List Pc × Nat), storeOk s.1 = true → storeOk (ts.foldl (takeStep ps) s).1 = true
  | [], _, h => h
  | _ :: r, _, h => takes_ok r _ (takeStep_ok h)

end Go.Proofs.YtnaahincolooeaaGreatDoor

/- Plain facts on folders: digits in the base 16, entries, their texts, and what reads them. No program in sight. -/
namespace Go.Proofs.YtnaahincolooeaaGreatDoor
open Go.RowKit

def hexD (d : Nat) : UInt8 := UInt8.ofNat (if d < 10 then 48 + d else 87 + d)
def hexF : Nat → Nat → List UInt8
  | 0, _ => []
  | f + 1, n => if n < 16 then [hexD n] else hexF f (n / 16) ++ [hexD (n % 16)]
def hexT (n : Int) : List UInt8 := if pv n then hexF 6 n.toNat else []
def hexV (c : UInt8) : Option Nat := if 48 ≤ c.toNat ∧ c.toNat ≤ 57 then some (c.toNat - 48) else if 97 ≤ c.toNat ∧ c.toNat ≤ 102 then some (c.toNat - 87) else none
def hexR : Nat → List UInt8 → Option Nat
  | n, [] => some n
  | n, c :: r => match hexV c with | some d => hexR (16 * n + d) r | none => none
def readHex (l : List UInt8) : Int :=
  if 1 ≤ l.length ∧ l.length ≤ 6 then (match hexR 0 l with | some n => if hexT n = l then (n : Int) else -1 | none => -1) else -1
theorem hexD_val {d : Nat} (h : d < 16) : (hexD d).toNat = (if d < 10 then 48 + d else 87 + d) := by
  unfold hexD
  rw [UInt8.toNat_ofNat']
  split <;> omega
theorem hexV_D {d : Nat} (h : d < 16) : hexV (hexD d) = some d := by
  unfold hexV
  rw [hexD_val h]
  by_cases h1 : d < 10
  · rw [if_pos h1, if_pos (by omega)]; congr 1; omega
  · rw [if_neg h1, if_neg (by omega), if_pos (by omega)]; congr 1; omega
theorem hexV_lt {c : UInt8} {d : Nat} (h : hexV c = some d) : d < 16 := by
  unfold hexV at h
  split at h
  · simp at h; omega
  · split at h
    · simp at h; omega
    · simp at h
theorem hexR_append : ∀ (l : List UInt8) (m : Nat) (c : UInt8) (n d : Nat), hexR m l = some n → hexV c = some d → hexR m (l ++ [c]) = some (16 * n + d)
  | [], m, c, n, d, h, h' => by
    simp [hexR] at h; subst h
    simp [hexR, h']
  | x :: r, m, c, n, d, h, h' => by
    simp only [List.cons_append, hexR] at h ⊢
    cases hx : hexV x with
    | none => rw [hx] at h; simp at h
    | some y => rw [hx] at h; exact hexR_append r _ c n d h h'
theorem hexR_F : ∀ (f n : Nat), n < 16 ^ f → 0 < f → hexR 0 (hexF f n) = some n
  | 0, _, _, h => absurd h (by omega)
  | f + 1, n, h, _ => by
    rw [hexF]
    by_cases hn : n < 16
    · rw [if_pos hn]
      simp [hexR, hexV_D hn]
    · rw [if_neg hn]
      have hf : 0 < f := by
        rcases Nat.eq_zero_or_pos f with h0 | h0
        · subst h0; simp at h; omega
        · exact h0
      rw [hexR_append _ _ _ _ _ (hexR_F f (n / 16) (by rw [Nat.pow_succ] at h; omega) hf) (hexV_D (Nat.mod_lt _ (by omega)))]
      congr 1; omega
theorem hexF_len : ∀ (f n : Nat), (hexF f n).length ≤ f
  | 0, _ => by simp [hexF]
  | f + 1, n => by
    rw [hexF]
    split
    · simp
    · have := hexF_len f (n / 16); simp; omega
theorem hexF_pos (f n : Nat) : 1 ≤ (hexF (f + 1) n).length := by
  rw [hexF]
  split <;> simp
theorem hexF_ch : ∀ (f n : Nat), ∀ c ∈ hexF f n, (hexV c).isSome = true
  | 0, _ => by simp [hexF]
  | f + 1, n => by
    intro c hc
    rw [hexF] at hc
    split at hc
    · simp at hc; subst hc; rw [hexV_D (by assumption)]; rfl
    · rcases List.mem_append.1 hc with h | h
      · exact hexF_ch f _ c h
      · simp at h; subst h; rw [hexV_D (Nat.mod_lt _ (by omega))]; rfl
theorem hexT_on {n : Int} (h : pv n = true) : hexT n = hexF 6 n.toNat := by unfold hexT; rw [if_pos h]
theorem hexT_off {n : Int} (h : pv n = false) : hexT n = [] := by unfold hexT; rw [h]; rfl
theorem hexT_len (n : Int) : (hexT n).length ≤ 6 := by
  unfold hexT
  split
  · exact hexF_len _ _
  · simp
theorem hexT_ch {n : Int} {c : UInt8} (h : c ∈ hexT n) : (hexV c).isSome = true := by
  unfold hexT at h
  split at h
  · exact hexF_ch _ _ c h
  · simp at h
theorem hexR_T {n : Int} (h : pv n = true) : hexR 0 (hexT n) = some n.toNat := by
  rw [hexT_on h]
  have := pv_iff.1 h
  exact hexR_F 6 _ (by omega) (by omega)
theorem readHex_T {n : Int} (h : pv n = true) : readHex (hexT n) = n := by
  unfold readHex
  have h1 : 1 ≤ (hexT n).length := by rw [hexT_on h]; exact hexF_pos 5 _
  have h2 := pv_iff.1 h
  have h3 : ((n.toNat : Nat) : Int) = n := by omega
  rw [if_pos ⟨h1, hexT_len n⟩, hexR_T h]
  simp only [h3, if_true]
theorem readHex_in {l : List UInt8} : readHex l = -1 ∨ (pv (readHex l) = true ∧ hexT (readHex l) = l) := by
  unfold readHex
  split
  · rename_i hl
    split
    · split
      · rename_i h
        right
        refine ⟨?_, h⟩
        cases hp : pv (_ : Int)
        · rw [hexT_off hp] at h; subst h; simp at hl
        · rfl
      · exact .inl rfl
    · exact .inl rfl
  · exact .inl rfl
theorem hexT_inj {a b : Int} (ha : pv a = true) (hb : pv b = true) (h : hexT a = hexT b) : a = b := by
  rw [← readHex_T ha, h, readHex_T hb]

/-! ### Entries -/
structure Ent where
  name : ByteArray
  print : Int
def entOk (e : Ent) : Bool := wordOk (bs e.name) && pv e.print
def ltN (a b : ByteArray) : Bool := Go.Op.bytesLess (bs a) (bs b)
/-- Valid and ascending behind a name. -/
def entsFrom : Option ByteArray → List Ent → Bool
  | _, [] => true
  | p, e :: r => entOk e && (match p with | some b => ltN b e.name | none => true) && entsFrom (some e.name) r
def entsOk (l : List Ent) : Bool := decide (l.length ≤ 3) && entsFrom none l
def entText (e : Ent) : List UInt8 := bs e.name ++ 61 :: (hexT e.print ++ [59])
def entsText (l : List Ent) : List UInt8 := l.flatMap entText
def folderText (l : List Ent) : List UInt8 := if entsOk l then 100 :: entsText l else []
theorem folder_on {l : List Ent} (h : entsOk l = true) : folderText l = 100 :: entsText l := by unfold folderText; rw [if_pos h]
theorem folder_off {l : List Ent} (h : entsOk l = false) : folderText l = [] := by unfold folderText; rw [h]; rfl
theorem entsFrom_all : ∀ {l : List Ent} {p : Option ByteArray}, entsFrom p l = true → ∀ e ∈ l, entOk e = true
  | [], _, _, _, h => by simp at h
  | x :: r, p, h, e, he => by
    simp only [entsFrom, Bool.and_eq_true] at h
    rcases List.mem_cons.1 he with rfl | he
    · exact h.1.1
    · exact entsFrom_all h.2 e he
theorem ents_in {l : List Ent} (h : entsOk l = true) : l.length ≤ 3 ∧ entsFrom none l = true := by simpa [entsOk] using h
theorem ents_all {l : List Ent} (h : entsOk l = true) {e : Ent} (he : e ∈ l) : entOk e = true := entsFrom_all (ents_in h).2 e he
theorem entOk_iff {e : Ent} : entOk e = true ↔ wordOk (bs e.name) = true ∧ pv e.print = true := by simp [entOk]
theorem wordOk_ch {l : List UInt8} (h : wordOk l = true) {c : UInt8} (hc : c ∈ l) : c ≠ 61 ∧ c ≠ 59 := by
  simp only [wordOk, Bool.and_eq_true, decide_eq_true_eq] at h
  have := List.all_eq_true.1 h.2 c hc
  simp only [wordCh, Bool.or_eq_true, isSm, isDig] at this
  constructor <;> rintro rfl <;> revert this <;> decide
theorem hex_ch {n : Int} {c : UInt8} (hc : c ∈ hexT n) : c ≠ 61 ∧ c ≠ 59 := by
  have := hexT_ch hc
  constructor <;> rintro rfl <;> revert this <;> decide
theorem cut_at : ∀ (a a' : List UInt8) (x : UInt8) (r r' : List UInt8), x ∉ a → x ∉ a' → a ++ x :: r = a' ++ x :: r' → a = a' ∧ r = r'
  | [], [], x, r, r', _, _, h => by simpa using h
  | [], y :: t, x, r, r', _, h2, h => by simp at h; exact absurd h.1 (by intro e; subst e; simp at h2)
  | y :: t, [], x, r, r', h1, _, h => by simp at h; exact absurd h.1.symm (by intro e; subst e; simp at h1)
  | y :: t, z :: u, x, r, r', h1, h2, h => by
    simp only [List.cons_append, List.cons.injEq] at h
    have := cut_at t u x r r' (by simp at h1; exact h1.2) (by simp at h2; exact h2.2) h.2
    exact ⟨by rw [h.1, this.1], this.2⟩
theorem entText_cut {e : Ent} (h : entOk e = true) : 61 ∉ bs e.name ∧ 59 ∉ hexT e.print := by
  obtain ⟨h1, h2⟩ := entOk_iff.1 h
  exact ⟨fun hc => (wordOk_ch h1 hc).1 rfl, fun hc => (hex_ch hc).2 rfl⟩
theorem bs_inj {a b : ByteArray} (h : bs a = bs b) : a = b := by
  cases a with | mk a => cases b with | mk b =>
  simp only [bs] at h
  rw [show a = b from Array.ext' h]
theorem ents_inj : ∀ (l l' : List Ent), (∀ e ∈ l, entOk e = true) → (∀ e ∈ l', entOk e = true) → entsText l = entsText l' → l = l'
  | [], [], _, _, _ => rfl
  | [], e :: r, _, _, h => by simp [entsText, entText] at h
  | e :: r, [], _, _, h => by simp [entsText, entText] at h
  | e :: r, e' :: r', h1, h2, h => by
    have k1 := entText_cut (h1 e (by simp))
    have k2 := entText_cut (h2 e' (by simp))
    simp only [entsText, List.flatMap_cons, entText, List.append_assoc, List.cons_append, List.nil_append] at h
    obtain ⟨e1, h⟩ := cut_at _ _ _ _ _ k1.1 k2.1 h
    obtain ⟨e2, h⟩ := cut_at _ _ _ _ _ k1.2 k2.2 h
    have e3 := hexT_inj (entOk_iff.1 (h1 e (by simp))).2 (entOk_iff.1 (h2 e' (by simp))).2 e2
    have e4 := bs_inj e1
    have := ents_inj r r' (fun x hx => h1 x (by simp [hx])) (fun x hx => h2 x (by simp [hx])) h
    obtain ⟨n, p⟩ := e
    obtain ⟨n', p'⟩ := e'
    simp only at e3 e4
    rw [e3, e4, this]

/-- The entries whose text a text is. -/
noncomputable def readFolder (l : List UInt8) : Option (List Ent) :=
  open Classical in if h : ∃ es, entsOk es = true ∧ folderText es = l then some h.choose else none
theorem readFolder_yes {es : List Ent} {l : List UInt8} (h : entsOk es = true) (hl : folderText es = l) : readFolder l = some es := by
  unfold readFolder
  have hex : ∃ es, entsOk es = true ∧ folderText es = l := ⟨es, h, hl⟩
  rw [dif_pos hex]
  obtain ⟨h1, h2⟩ := hex.choose_spec
  rw [folder_on h1] at h2
  rw [folder_on h, ← h2] at hl
  simp only [List.cons.injEq, true_and] at hl
  rw [ents_inj _ _ (fun e he => ents_all h1 he) (fun e he => ents_all h he) hl.symm]
theorem readFolder_no {l : List UInt8} (h : ∀ es, entsOk es = true → folderText es = l → False) : readFolder l = none := by
  unfold readFolder
  rw [dif_neg (fun ⟨es, h1, h2⟩ => h es h1 h2)]
theorem readFolder_some {es : List Ent} {l : List UInt8} (h : readFolder l = some es) : entsOk es = true ∧ folderText es = l := by
  unfold readFolder at h
  split at h
  · rename_i hex
    have := Option.some.inj h
    subst this
    exact hex.choose_spec
  · simp at h
/-- The entries, or none. -/
noncomputable def entsOf (l : List UInt8) : List Ent := (readFolder l).getD []

end Go.Proofs.YtnaahincolooeaaGreatDoor

/- A region that draws its order, whose operations each give one value that is known, while the world keeps a law. No program in sight. -/
namespace Go.Proofs.YtnaahincolooeaaGreatDoor
open Go.RowKit

section
variable {P : Program} {ops : Array Oper}
theorem wp_region_vals {id : Nat} {Q : Exit → Act → World → Prop} {a0 : Act} {w0 : World} (hm : P.follows .mixedOrders = true) (hp : plainB ops = true) (hback : backB ops = true) (hptr : ptrB ops = true)
    (hdst : (ops.all fun o => match o.dst with | some t => decide (t < a0.tmps.size) | none => true) = true) (hs : (ops.all fun o => o.dst.isSome) = true)
    (J : World → Prop) (L : List Value) (hJ : J w0.drew)
    (hop : ∀ (i : Nat) (o : Oper), ops[i]? = some o → ∀ (a : Act) (w : World), J w →
      (∀ t, freshB ops i t = true → a.tmps.getD t undef = a0.tmps.getD t undef) →
      (∀ e ∈ o.after, Region.binds .any e = true → slotOf2 ops e.on a = L.getD e.on undef) →
      o.wp P a w (fun a' w' => a' = a.put o.dst (L.getD i undef) ∧ J w') Q)
    (hend : ∀ (tm : Array Value) (w : World), J w → (∀ (i : Nat) (o : Oper), ops[i]? = some o → slotOf2 ops i ⟨tm, a0.defers⟩ = L.getD i undef) → Q .normal ⟨refillL ops.toList a0.tmps tm, a0.defers⟩ w) :
    (Code.region id ops true).wp P Q a0 w0 := by
  refine wp_region_inv3 hm hp hback hptr hdst (fun _ w => J w) (fun _ _ => True) (fun i v _ => v = L.getD i undef) hJ (fun i v w w' _ h => h) ?_ ?_
  · intro i o hi n a w _ hj hb hd
    refine Oper.wp_mono ?_ (hop i o hi a w hj hb hd)
    rintro a' w' ⟨h1, h2⟩
    refine ⟨_, h1, h2, trivial, ?_⟩
    have hso : o.dst.isSome = true := by
      have := Array.all_eq_true.1 hs
      obtain ⟨hlt, rfl⟩ := Array.getElem?_eq_some_iff.1 hi
      exact this i hlt
    simp [hso]
  · intro tm w hj hF
    exact hend tm w hj hF
end
end Go.Proofs.YtnaahincolooeaaGreatDoor

/- Rows of pieces as a walk asks for them. No program in sight. -/
namespace Go.Proofs.YtnaahincolooeaaGreatDoor
open Go.RowKit

abbrev encP (p : Pc) : List Value := [.int .i64 p.print, .string p.text]
abbrev Pcs := Rd encP 2
abbrev pcv (p : Pc) : Value := .agg #[.int .i64 p.print, .string p.text]
theorem Rd.pcs {w : World} {B n : Nat} {v : Value} {xs : List Pc} (h : Pcs w B v xs) (hn : xs.length = n) :
    ∃ a c, v = .slice a n c ∧ n ≤ c ∧ c ≤ 9223372036854775807 ∧
      ∀ i, i < n → ∃ (b o : Nat) (r : Int) (t : ByteArray), a = some ⟨b, o, none⟩ ∧ b < B ∧ Hid (xs[i]? = some ⟨r, t⟩) ∧ w.cell? ⟨b, o + i * 2, none⟩ = some (.int .i64 r) ∧ w.cell? ⟨b, o + i * 2 + 1, none⟩ = some (.string t) := by
  obtain ⟨a, c, hv, h1, h2, h3⟩ := Rd.openN h (fun _ => rfl) hn
  refine ⟨a, c, hv, h1, h2, fun i hi => ?_⟩
  obtain ⟨b, o, ⟨r, t⟩, ha, hb, hx, hc⟩ := h3 i hi
  exact ⟨b, o, r, t, ha, hb, hx, by simpa using hc 0 _ rfl, by simpa [Nat.add_assoc] using hc 1 _ rfl⟩
theorem flatP_get {xs : List Pc} {k : Nat} {x : Pc} (h : xs[k]? = some x) : (xs.flatMap encP)[k * 2]? = some (.int .i64 x.print) ∧ (xs.flatMap encP)[k * 2 + 1]? = some (.string x.text) :=
  ⟨by simpa using flatMap_get (enc := encP) (fun _ => rfl) xs k 0 x _ h rfl, flatMap_get (enc := encP) (fun _ => rfl) xs k 1 x _ h rfl⟩
theorem flatP_len (xs : List Pc) : (xs.flatMap encP).length = xs.length * 2 := by
  induction xs with
  | nil => rfl
  | cons x r ih => rw [List.flatMap_cons, List.length_append, ih]; simp; omega
theorem two_cells_of {w : World} {g : Nat} {t : TypeId} {x y : Value} (h : w.heap[g]? = some (.cells #[x, y] t (0, 0))) :
    w.cell? ⟨g, 0, none⟩ = some x ∧ w.cell? ⟨g, 1, none⟩ = some y ∧ w.frozen? ⟨g, 0, none⟩ = false ∧ w.frozen? ⟨g, 1, none⟩ = false := by
  refine ⟨?_, ?_, frozen_of_row _ _ _ _ _ h, frozen_of_row _ _ _ _ _ h⟩ <;> simp [World.cell?, h]
theorem row_onP {w w' : World} {base e k n : Nat} {v : Value} {cs : List Value} (h : w.ownsRow base e k v n cs) (hb : Below w.heap.size w w') : w'.ownsRow base e k v n cs := by
  refine ⟨h.1, ?_⟩
  rcases h.2 with h2 | ⟨g, cap, cur, hv, hg, hh, r⟩
  · exact .inl h2
  · exact .inr ⟨g, cap, cur, hv, hg, (hb.block g (Array.getElem?_eq_some_iff.1 hh).1).trans hh, r⟩

def szPcs (xs : List Pc) : Nat := (xs.map fun x => x.text.size).sum
theorem szPcs_succ {xs : List Pc} {k : Nat} {x : Pc} (h : xs[k]? = some x) : szPcs (xs.take (k + 1)) = szPcs (xs.take k) + x.text.size := by
  unfold szPcs; rw [take_snoc' h]; simp
theorem szPcs_take (xs : List Pc) (k : Nat) : szPcs (xs.take k) ≤ szPcs xs := by
  have : szPcs xs = szPcs (xs.take k) + szPcs (xs.drop k) := by
    unfold szPcs; rw [← List.sum_append, ← List.map_append, List.take_append_drop]
  omega
theorem szPcs_mem {xs : List Pc} {x : Pc} (h : x ∈ xs) : x.text.size ≤ szPcs xs := by
  obtain ⟨k, hk, rfl⟩ := List.getElem_of_mem h
  have h1 := szPcs_succ (List.getElem?_eq_getElem hk)
  have h2 := szPcs_take xs (k + 1)
  omega
/-- What is left of the measure: all fits, or not. -/
def szLeftP (left : Int) (xs : List Pc) : Int := if left < xs.length + szPcs xs then -1 else left - xs.length - szPcs xs

end Go.Proofs.YtnaahincolooeaaGreatDoor
