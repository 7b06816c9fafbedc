/- Plain facts on folders: digits in the base 16, entries, their texts, and what reads them. No program in sight. -/
import Derived.Test.YtkfkcbceoekgjaaDoorPcP
namespace Go.Proofs.YtkfkcbceoekgjaaDoor
open Go.RowKit

def hexD (d : Nat) : UInt8 := UInt8.ofNat (if d < 10 then 48 + d else 87 + d)
def hexF : Nat → Nat → List UInt8
  | 0, _ => []
  | f + 1, n => if n < 16 then [hexD n] else hexF f (n / 16) ++ [hexD (n % 16)]
def hexT (n : Int) : List UInt8 := if pv n then hexF 6 n.toNat else []
def hexV (c : UInt8) : Option Nat := if 48 ≤ c.toNat ∧ c.toNat ≤ 57 then some (c.toNat - 48) else if 97 ≤ c.toNat ∧ c.toNat ≤ 102 then some (c.toNat - 87) else none
def hexR : Nat → List UInt8 → Option Nat
  | n, [] => some n
  | n, c :: r => match hexV c with | some d => hexR (16 * n + d) r | none => none
def readHex (l : List UInt8) : Int :=
  if 1 ≤ l.length ∧ l.length ≤ 6 then (match hexR 0 l with | some n => if hexT n = l then (n : Int) else -1 | none => -1) else -1
theorem hexD_val {d : Nat} (h : d < 16) : (hexD d).toNat = (if d < 10 then 48 + d else 87 + d) := by
  unfold hexD
  rw [UInt8.toNat_ofNat']
  split <;> omega
theorem hexV_D {d : Nat} (h : d < 16) : hexV (hexD d) = some d := by
  unfold hexV
  rw [hexD_val h]
  by_cases h1 : d < 10
  · rw [if_pos h1, if_pos (by omega)]; congr 1; omega
  · rw [if_neg h1, if_neg (by omega), if_pos (by omega)]; congr 1; omega
theorem hexV_lt {c : UInt8} {d : Nat} (h : hexV c = some d) : d < 16 := by
  unfold hexV at h
  split at h
  · simp at h; omega
  · split at h
    · simp at h; omega
    · simp at h
theorem hexR_append : ∀ (l : List UInt8) (m : Nat) (c : UInt8) (n d : Nat), hexR m l = some n → hexV c = some d → hexR m (l ++ [c]) = some (16 * n + d)
  | [], m, c, n, d, h, h' => by
    simp [hexR] at h; subst h
    simp [hexR, h']
  | x :: r, m, c, n, d, h, h' => by
    simp only [List.cons_append, hexR] at h ⊢
    cases hx : hexV x with
    | none => rw [hx] at h; simp at h
    | some y => rw [hx] at h; exact hexR_append r _ c n d h h'
theorem hexR_F : ∀ (f n : Nat), n < 16 ^ f → 0 < f → hexR 0 (hexF f n) = some n
  | 0, _, _, h => absurd h (by omega)
  | f + 1, n, h, _ => by
    rw [hexF]
    by_cases hn : n < 16
    · rw [if_pos hn]
      simp [hexR, hexV_D hn]
    · rw [if_neg hn]
      have hf : 0 < f := by
        rcases Nat.eq_zero_or_pos f with h0 | h0
        · subst h0; simp at h; omega
        · exact h0
      rw [hexR_append _ _ _ _ _ (hexR_F f (n / 16) (by rw [Nat.pow_succ] at h; omega) hf) (hexV_D (Nat.mod_lt _ (by omega)))]
      congr 1; omega
theorem hexF_len : ∀ (f n : Nat), (hexF f n).length ≤ f
  | 0, _ => by simp [hexF]
  | f + 1, n => by
    rw [hexF]
    split
    · simp
    · have := hexF_len f (n / 16); simp; omega
theorem hexF_pos (f n : Nat) : 1 ≤ (hexF (f + 1) n).length := by
  rw [hexF]
  split <;> simp
theorem hexF_ch : ∀ (f n : Nat), ∀ c ∈ hexF f n, (hexV c).isSome = true
  | 0, _ => by simp [hexF]
  | f + 1, n => by
    intro c hc
    rw [hexF] at hc
    split at hc
    · simp at hc; subst hc; rw [hexV_D (by assumption)]; rfl
    · rcases List.mem_append.1 hc with h | h
      · exact hexF_ch f _ c h
      · simp at h; subst h; rw [hexV_D (Nat.mod_lt _ (by omega))]; rfl
theorem hexT_on {n : Int} (h : pv n = true) : hexT n = hexF 6 n.toNat := by unfold hexT; rw [if_pos h]
theorem hexT_off {n : Int} (h : pv n = false) : hexT n = [] := by unfold hexT; rw [h]; rfl
theorem hexT_len (n : Int) : (hexT n).length ≤ 6 := by
  unfold hexT
  split
  · exact hexF_len _ _
  · simp
theorem hexT_ch {n : Int} {c : UInt8} (h : c ∈ hexT n) : (hexV c).isSome = true := by
  unfold hexT at h
  split at h
  · exact hexF_ch _ _ c h
  · simp at h
theorem hexR_T {n : Int} (h : pv n = true) : hexR 0 (hexT n) = some n.toNat := by
  rw [hexT_on h]
  have := pv_iff.1 h
  exact hexR_F 6 _ (by omega) (by omega)
theorem readHex_T {n : Int} (h : pv n = true) : readHex (hexT n) = n := by
  unfold readHex
  have h1 : 1 ≤ (hexT n).length := by rw [hexT_on h]; exact hexF_pos 5 _
  have h2 := pv_iff.1 h
  have h3 : ((n.toNat : Nat) : Int) = n := by omega
  rw [if_pos ⟨h1, hexT_len n⟩, hexR_T h]
  simp only [h3, if_true]
theorem readHex_in {l : List UInt8} : readHex l = -1 ∨ (pv (readHex l) = true ∧ hexT (readHex l) = l) := by
  unfold readHex
  split
  · rename_i hl
    split
    · split
      · rename_i h
        right
        refine ⟨?_, h⟩
        cases hp : pv (_ : Int)
        · rw [hexT_off hp] at h; subst h; simp at hl
        · rfl
      · exact .inl rfl
    · exact .inl rfl
  · exact .inl rfl
theorem hexT_inj {a b : Int} (ha : pv a = true) (hb : pv b = true) (h : hexT a = hexT b) : a = b := by
  rw [← readHex_T ha, h, readHex_T hb]

/-! ### Entries -/
structure Ent where
  name : ByteArray
  print : Int
def entOk (e : Ent) : Bool := wordOk (bs e.name) && pv e.print
def ltN (a b : ByteArray) : Bool := Go.Op.bytesLess (bs a) (bs b)
/-- Valid and ascending behind a name. -/
def entsFrom : Option ByteArray → List Ent → Bool
  | _, [] => true
  | p, e :: r => entOk e && (match p with | some b => ltN b e.name | none => true) && entsFrom (some e.name) r
def entsOk (l : List Ent) : Bool := decide (l.length ≤ 3) && entsFrom none l
def entText (e : Ent) : List UInt8 := bs e.name ++ 61 :: (hexT e.print ++ [59])
def entsText (l : List Ent) : List UInt8 := l.flatMap entText
def folderText (l : List Ent) : List UInt8 := if entsOk l then 100 :: entsText l else []
theorem folder_on {l : List Ent} (h : entsOk l = true) : folderText l = 100 :: entsText l := by unfold folderText; rw [if_pos h]
theorem folder_off {l : List Ent} (h : entsOk l = false) : folderText l = [] := by unfold folderText; rw [h]; rfl
theorem entsFrom_all : ∀ {l : List Ent} {p : Option ByteArray}, entsFrom p l = true → ∀ e ∈ l, entOk e = true
  | [], _, _, _, h => by simp at h
  | x :: r, p, h, e, he => by
    simp only [entsFrom, Bool.and_eq_true] at h
    rcases List.mem_cons.1 he with rfl | he
    · exact h.1.1
    · exact entsFrom_all h.2 e he
theorem ents_in {l : List Ent} (h : entsOk l = true) : l.length ≤ 3 ∧ entsFrom none l = true := by simpa [entsOk] using h
theorem ents_all {l : List Ent} (h : entsOk l = true) {e : Ent} (he : e ∈ l) : entOk e = true := entsFrom_all (ents_in h).2 e he
theorem entOk_iff {e : Ent} : entOk e = true ↔ wordOk (bs e.name) = true ∧ pv e.print = true := by simp [entOk]
theorem wordOk_ch {l : List UInt8} (h : wordOk l = true) {c : UInt8} (hc : c ∈ l) : c ≠ 61 ∧ c ≠ 59 := by
  simp only [wordOk, Bool.and_eq_true, decide_eq_true_eq] at h
  have := List.all_eq_true.1 h.2 c hc
  simp only [wordCh, Bool.or_eq_true, isSm, isDig] at this
  constructor <;> rintro rfl <;> revert this <;> decide
theorem hex_ch {n : Int} {c : UInt8} (hc : c ∈ hexT n) : c ≠ 61 ∧ c ≠ 59 := by
  have := hexT_ch hc
  constructor <;> rintro rfl <;> revert this <;> decide
theorem cut_at : ∀ (a a' : List UInt8) (x : UInt8) (r r' : List UInt8), x ∉ a → x ∉ a' → a ++ x :: r = a' ++ x :: r' → a = a' ∧ r = r'
  | [], [], x, r, r', _, _, h => by simpa using h
  | [], y :: t, x, r, r', _, h2, h => by simp at h; exact absurd h.1 (by intro e; subst e; simp at h2)
  | y :: t, [], x, r, r', h1, _, h => by simp at h; exact absurd h.1.symm (by intro e; subst e; simp at h1)
  | y :: t, z :: u, x, r, r', h1, h2, h => by
    simp only [List.cons_append, List.cons.injEq] at h
    have := cut_at t u x r r' (by simp at h1; exact h1.2) (by simp at h2; exact h2.2) h.2
    exact ⟨by rw [h.1, this.1], this.2⟩
theorem entText_cut {e : Ent} (h : entOk e = true) : 61 ∉ bs e.name ∧ 59 ∉ hexT e.print := by
  obtain ⟨h1, h2⟩ := entOk_iff.1 h
  exact ⟨fun hc => (wordOk_ch h1 hc).1 rfl, fun hc => (hex_ch hc).2 rfl⟩
theorem bs_inj {a b : ByteArray} (h : bs a = bs b) : a = b := by
  cases a with | mk a => cases b with | mk b =>
  simp only [bs] at h
  rw [show a = b from Array.ext' h]
theorem ents_inj : ∀ (l l' : List Ent), (∀ e ∈ l, entOk e = true) → (∀ e ∈ l', entOk e = true) → entsText l = entsText l' → l = l'
  | [], [], _, _, _ => rfl
  | [], e :: r, _, _, h => by simp [entsText, entText] at h
  | e :: r, [], _, _, h => by simp [entsText, entText] at h
  | e :: r, e' :: r', h1, h2, h => by
    have k1 := entText_cut (h1 e (by simp))
    have k2 := entText_cut (h2 e' (by simp))
    simp only [entsText, List.flatMap_cons, entText, List.append_assoc, List.cons_append, List.nil_append] at h
    obtain ⟨e1, h⟩ := cut_at _ _ _ _ _ k1.1 k2.1 h
    obtain ⟨e2, h⟩ := cut_at _ _ _ _ _ k1.2 k2.2 h
    have e3 := hexT_inj (entOk_iff.1 (h1 e (by simp))).2 (entOk_iff.1 (h2 e' (by simp))).2 e2
    have e4 := bs_inj e1
    have := ents_inj r r' (fun x hx => h1 x (by simp [hx])) (fun x hx => h2 x (by simp [hx])) h
    obtain ⟨n, p⟩ := e
    obtain ⟨n', p'⟩ := e'
    simp only at e3 e4
    rw [e3, e4, this]

/-- The entries whose text a text is. -/
noncomputable def readFolder (l : List UInt8) : Option (List Ent) :=
  open Classical in if h : ∃ es, entsOk es = true ∧ folderText es = l then some h.choose else none
theorem readFolder_yes {es : List Ent} {l : List UInt8} (h : entsOk es = true) (hl : folderText es = l) : readFolder l = some es := by
  unfold readFolder
  have hex : ∃ es, entsOk es = true ∧ folderText es = l := ⟨es, h, hl⟩
  rw [dif_pos hex]
  obtain ⟨h1, h2⟩ := hex.choose_spec
  rw [folder_on h1] at h2
  rw [folder_on h, ← h2] at hl
  simp only [List.cons.injEq, true_and] at hl
  rw [ents_inj _ _ (fun e he => ents_all h1 he) (fun e he => ents_all h he) hl.symm]
theorem readFolder_no {l : List UInt8} (h : ∀ es, entsOk es = true → folderText es = l → False) : readFolder l = none := by
  unfold readFolder
  rw [dif_neg (fun ⟨es, h1, h2⟩ => h es h1 h2)]
theorem readFolder_some {es : List Ent} {l : List UInt8} (h : readFolder l = some es) : entsOk es = true ∧ folderText es = l := by
  unfold readFolder at h
  split at h
  · rename_i hex
    have := Option.some.inj h
    subst this
    exact hex.choose_spec
  · simp at h
/-- The entries, or none. -/
noncomputable def entsOf (l : List UInt8) : List Ent := (readFolder l).getD []

end Go.Proofs.YtkfkcbceoekgjaaDoor
