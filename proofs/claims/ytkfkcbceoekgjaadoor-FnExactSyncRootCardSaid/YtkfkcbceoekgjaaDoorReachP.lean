/- What roots reach in a store, in plain Lean. -/
import Derived.Test.YtkfkcbceoekgjaaDoorNamed
namespace Go.Proofs.YtkfkcbceoekgjaaDoor
open Go.RowKit

/-- A set of prints that has the roots that are there, and with a piece all that its folder names and that is there. -/
def Shut (l : List Pc) (roots : List Int) (S : Int → Prop) : Prop :=
  (∀ y ∈ roots, hasP l y = true → S y) ∧ ∀ x ∈ l, S x.print → ∀ y ∈ prs x, hasP l y = true → S y
def Rch (l : List Pc) (roots : List Int) (y : Int) : Prop := ∀ S : Int → Prop, Shut l roots S → S y
theorem rch_root {l : List Pc} {roots : List Int} {y : Int} (h : y ∈ roots) (hy : hasP l y = true) : Rch l roots y := fun _ hS => hS.1 y h hy
theorem rch_step {l : List Pc} {roots : List Int} {x : Pc} {y : Int} (hx : x ∈ l) (h : Rch l roots x.print) (hy : y ∈ prs x) (hp : hasP l y = true) : Rch l roots y := fun S hS => hS.2 x hx (h S hS) y hy hp
noncomputable def inR (l : List Pc) (roots : List Int) (y : Int) : Bool := @decide (Rch l roots y) (Classical.propDecidable _)
theorem inR_iff {l : List Pc} {roots : List Int} {y : Int} : inR l roots y = true ↔ Rch l roots y := by unfold inR; simp
noncomputable def reachB (l : List Pc) (roots : List Int) : List Bool := l.map fun p => inR l roots p.print
noncomputable def reachOf (l : List Pc) (roots : List Int) : List Int := if storeOk l then (l.filter fun p => inR l roots p.print).map (·.print) else []
theorem reachB_len (l : List Pc) (roots : List Int) : (reachB l roots).length = l.length := by simp [reachB]

/-- The piece with a print is marked. -/
def OnA (A : List Bool) (l : List Pc) (y : Int) : Prop := ∃ (i : Nat) (x : Pc), A[i]? = some true ∧ l[i]? = some x ∧ x.print = y
theorem print_one {l : List Pc} (hs : storeOk l = true) {i j : Nat} {x z : Pc} (hi : l[i]? = some x) (hj : l[j]? = some z) (h : x.print = z.print) : i = j := by
  rcases Nat.lt_trichotomy i j with h1 | h1 | h1
  · have := asc_get (st_asc hs) hi hj h1; omega
  · exact h1
  · have := asc_get (st_asc hs) hj hi h1; omega
theorem has_mem {l : List Pc} {x : Pc} (h : x ∈ l) : hasP l x.print = true := hasP_iff.2 ⟨x, h, rfl⟩
theorem has_spot {l : List Pc} {y : Int} (hs : storeOk l = true) (h : hasP l y = true) : ∃ x, l[findAt l y]? = some x ∧ x.print = y := by
  refine Classical.byContradiction (fun hc => ?_)
  have := find_no (st_asc hs) (n := y) (fun x hx e => hc ⟨x, hx, e⟩)
  unfold hasP at h
  rw [this] at h; cases h

/-- Marks that are right as far as they go and lack nothing are those of what is reached. -/
theorem marks_all {l : List Pc} {roots : List Int} {A : List Bool} (hs : storeOk l = true) (hl : A.length = l.length)
    (snd : ∀ (i : Nat) (x : Pc), A[i]? = some true → l[i]? = some x → Rch l roots x.print) (cpl : ∀ (i : Nat) (x : Pc), l[i]? = some x → Rch l roots x.print → A[i]? = some true) : A = reachB l roots := by
  apply List.ext_getElem?
  intro i
  unfold reachB
  rw [List.getElem?_map]
  cases hx : l[i]? with
  | none =>
    have := List.getElem?_eq_none_iff.1 hx
    rw [List.getElem?_eq_none (by omega)]; rfl
  | some x =>
    have hi : i < A.length := by have := (List.getElem?_eq_some_iff.1 hx).1; omega
    have hA : A[i]? = some A[i] := List.getElem?_eq_getElem hi
    rw [hA]
    simp only [Option.map_some]
    cases hv : A[i] with
    | true =>
      rw [hv] at hA
      rw [inR_iff.2 (snd i x hA hx)]
    | false =>
      cases hr : inR l roots x.print with
      | false => rfl
      | true =>
        have := cpl i x hx (inR_iff.1 hr)
        rw [hA, hv] at this; cases this
theorem cpl_of {l : List Pc} {roots : List Int} {A : List Bool} (hs : storeOk l = true) (hr : ∀ y ∈ roots, hasP l y = true → OnA A l y)
    (hc : ∀ (i : Nat) (x : Pc), A[i]? = some true → l[i]? = some x → ∀ y ∈ prs x, hasP l y = true → OnA A l y) : ∀ (i : Nat) (x : Pc), l[i]? = some x → Rch l roots x.print → A[i]? = some true := by
  intro i x hx hR
  have : OnA A l x.print := hR (OnA A l) ⟨hr, fun z hz hS y hy hp => by
    obtain ⟨j, z', h1, h2, h3⟩ := hS
    obtain ⟨k, hk, e⟩ := List.getElem_of_mem hz
    have hzk : l[k]? = some z := by rw [List.getElem?_eq_getElem hk, e]
    obtain rfl := print_one hs h2 hzk h3
    rw [h2] at hzk
    obtain rfl := Option.some.inj hzk
    exact hc j z' h1 h2 y hy hp⟩
  obtain ⟨j, z, h1, h2, h3⟩ := this
  obtain rfl := print_one hs h2 hx h3
  exact h1

/-! ### The program's way: a heap of pieces to look at -/
structure DInv (l : List Pc) (roots : List Int) (A : List Bool) (todo : List Nat) (T : List Int) : Prop where
  len : A.length = l.length
  snd : ∀ (i : Nat) (x : Pc), A[i]? = some true → l[i]? = some x → Rch l roots x.print
  tin : ∀ i ∈ todo, A[i]? = some true
  sndT : ∀ y ∈ T, hasP l y = true → Rch l roots y
  rts : ∀ y ∈ roots, hasP l y = true → OnA A l y ∨ y ∈ T
  cls : ∀ (i : Nat) (x : Pc), A[i]? = some true → l[i]? = some x → i ∉ todo → ∀ y ∈ prs x, hasP l y = true → OnA A l y ∨ y ∈ T
def reachStep (l : List Pc) (y : Int) (s : List Bool × List Nat) : List Bool × List Nat :=
  if hasP l y = true ∧ s.1[findAt l y]? = some false then (s.1.set (findAt l y) true, s.2 ++ [findAt l y]) else s
theorem onA_set {A : List Bool} {l : List Pc} {y : Int} {i : Nat} (h : OnA A l y) : OnA (A.set i true) l y := by
  obtain ⟨j, x, h1, h2, h3⟩ := h
  refine ⟨j, x, ?_, h2, h3⟩
  by_cases e : i = j
  · subst e
    rw [List.getElem?_set_self (List.getElem?_eq_some_iff.1 h1).1]
  · rw [List.getElem?_set_ne e]; exact h1
theorem set_true {A : List Bool} {i j : Nat} (h : (A.set i true)[j]? = some true) : j = i ∨ A[j]? = some true := by
  by_cases e : i = j
  · exact .inl e.symm
  · rw [List.getElem?_set_ne e] at h; exact .inr h
theorem dinv_step {l : List Pc} {roots : List Int} {A : List Bool} {todo : List Nat} {y : Int} {T : List Int} (hs : storeOk l = true) (h : DInv l roots A todo (y :: T)) :
    DInv l roots (reachStep l y (A, todo)).1 (reachStep l y (A, todo)).2 T := by
  unfold reachStep
  split
  · rename_i hc
    obtain ⟨hp, hA⟩ := hc
    obtain ⟨x, hx, hxy⟩ := has_spot hs hp
    have hi := (List.getElem?_eq_some_iff.1 hA).1
    have hon : OnA (A.set (findAt l y) true) l y := ⟨findAt l y, x, by rw [List.getElem?_set_self hi], hx, hxy⟩
    refine ⟨by simp [h.len], ?_, ?_, fun z hz => h.sndT z (List.mem_cons_of_mem _ hz), ?_, ?_⟩
    · intro j z hj hz
      rcases set_true hj with rfl | hj'
      · rw [hx] at hz
        obtain rfl := Option.some.inj hz
        rw [hxy]; exact h.sndT y (List.mem_cons_self) hp
      · exact h.snd j z hj' hz
    · intro j hj
      rcases List.mem_append.1 hj with h1 | h1
      · by_cases e : findAt l y = j
        · rw [e, List.getElem?_set_self (by omega)]
        · rw [List.getElem?_set_ne e]; exact h.tin j h1
      · have : j = findAt l y := by simpa using h1
        rw [this, List.getElem?_set_self hi]
    · intro z hz hpz
      rcases h.rts z hz hpz with h1 | h1
      · exact .inl (onA_set h1)
      · rcases List.mem_cons.1 h1 with rfl | h2
        · exact .inl hon
        · exact .inr h2
    · intro j z hj hz hnt u hu hpu
      have hnt' : j ∉ todo ∧ j ≠ findAt l y := by
        constructor
        · exact fun h1 => hnt (List.mem_append_left _ h1)
        · intro e; exact hnt (by simp [e])
      rcases set_true hj with h1 | h1
      · exact absurd h1 hnt'.2
      · rcases h.cls j z h1 hz hnt'.1 u hu hpu with h2 | h2
        · exact .inl (onA_set h2)
        · rcases List.mem_cons.1 h2 with rfl | h3
          · exact .inl hon
          · exact .inr h3
  · rename_i hc
    have hon : hasP l y = true → OnA A l y := by
      intro hp
      obtain ⟨x, hx, hxy⟩ := has_spot hs hp
      have hi : findAt l y < A.length := by have := (List.getElem?_eq_some_iff.1 hx).1; rw [h.len]; exact this
      refine ⟨findAt l y, x, ?_, hx, hxy⟩
      rw [List.getElem?_eq_getElem hi]
      cases hv : A[findAt l y] with
      | true => rfl
      | false => exact absurd ⟨hp, by rw [List.getElem?_eq_getElem hi, hv]⟩ hc
    refine ⟨h.len, h.snd, h.tin, fun z hz => h.sndT z (List.mem_cons_of_mem _ hz), ?_, ?_⟩
    · intro z hz hpz
      rcases h.rts z hz hpz with h1 | h1
      · exact .inl h1
      · rcases List.mem_cons.1 h1 with rfl | h2
        · exact .inl (hon hpz)
        · exact .inr h2
    · intro j z hj hz hnt u hu hpu
      rcases h.cls j z hj hz hnt u hu hpu with h2 | h2
      · exact .inl h2
      · rcases List.mem_cons.1 h2 with rfl | h3
        · exact .inl (hon hpu)
        · exact .inr h3
theorem dinv_start {l : List Pc} {roots : List Int} : DInv l roots (List.replicate l.length false) [] roots := by
  refine ⟨by simp, ?_, by simp, fun y hy hp => rch_root hy hp, fun y hy _ => .inr hy, ?_⟩
  · intro i x hi; rw [List.getElem?_replicate] at hi; split at hi <;> simp at hi
  · intro i x hi; rw [List.getElem?_replicate] at hi; split at hi <;> simp at hi
theorem dinv_pop {l : List Pc} {roots : List Int} {A : List Bool} {todo : List Nat} {i : Nat} {x : Pc} (h : DInv l roots A (todo ++ [i]) []) (hx : l[i]? = some x) : DInv l roots A todo (prs x) := by
  have hi := h.tin i (by simp)
  refine ⟨h.len, h.snd, fun j hj => h.tin j (by simp [hj]), fun y hy hp => rch_step (List.mem_of_getElem? hx) (h.snd i x hi hx) hy hp, ?_, ?_⟩
  · intro y hy hp
    rcases h.rts y hy hp with h1 | h1
    · exact .inl h1
    · cases h1
  · intro j z hj hz hnt u hu hpu
    by_cases e : j = i
    · subst e
      rw [hx] at hz
      obtain rfl := Option.some.inj hz
      exact .inr hu
    · rcases h.cls j z hj hz (by simp [hnt, e]) u hu hpu with h2 | h2
      · exact .inl h2
      · cases h2
theorem dinv_end {l : List Pc} {roots : List Int} {A : List Bool} (hs : storeOk l = true) (h : DInv l roots A [] []) : A = reachB l roots := by
  refine marks_all hs h.len h.snd (cpl_of hs ?_ ?_)
  · intro y hy hp
    rcases h.rts y hy hp with h1 | h1
    · exact h1
    · cases h1
  · intro j z hj hz u hu hpu
    rcases h.cls j z hj hz (by simp) u hu hpu with h2 | h2
    · exact h2
    · cases h2
/-- The number that falls: twice the pieces without a mark, and those to look at. -/
def reachMu (s : List Bool × List Nat) : Nat := 2 * s.1.count false + s.2.length
theorem count_set_true : ∀ (A : List Bool) (i : Nat), A[i]? = some false → (A.set i true).count false + 1 = A.count false
  | [], i, h => by simp at h
  | a :: r, 0, h => by
    simp at h; subst h; simp
  | a :: r, i + 1, h => by
    have := count_set_true r i (by simpa using h)
    rw [List.set_cons_succ, List.count_cons, List.count_cons]
    omega
theorem reachMu_step (l : List Pc) (y : Int) (s : List Bool × List Nat) : reachMu (reachStep l y s) ≤ reachMu s := by
  unfold reachStep
  split
  · rename_i hc
    have := count_set_true s.1 _ hc.2
    simp only [reachMu, List.length_append, List.length_cons, List.length_nil]
    omega
  · exact Nat.le_refl _

/-! ### The reference's way: rounds -/
structure RInv (l : List Pc) (roots : List Int) (A : List Bool) : Prop where
  len : A.length = l.length
  snd : ∀ (i : Nat) (x : Pc), A[i]? = some true → l[i]? = some x → Rch l roots x.print
  rts : ∀ y ∈ roots, hasP l y = true → OnA A l y
def Cpl (l : List Pc) (roots : List Int) (A : List Bool) : Prop := ∀ (i : Nat) (x : Pc), l[i]? = some x → Rch l roots x.print → A[i]? = some true
/-- What was marked stays marked. -/
def Up (A B : List Bool) : Prop := A.length = B.length ∧ ∀ i : Nat, A[i]? = some true → B[i]? = some true
theorem Up.rfl' (A : List Bool) : Up A A := ⟨rfl, fun _ h => h⟩
theorem Up.trans {A B C : List Bool} (h : Up A B) (k : Up B C) : Up A C := ⟨h.1.trans k.1, fun i hi => k.2 i (h.2 i hi)⟩
theorem Up.on {A B : List Bool} {l : List Pc} {y : Int} (h : Up A B) (k : OnA A l y) : OnA B l y := by
  obtain ⟨i, x, h1, h2⟩ := k
  exact ⟨i, x, h.2 i h1, h2⟩
theorem up_cons {a b : Bool} {A B : List Bool} (h : Up (a :: A) (b :: B)) : (a = true → b = true) ∧ Up A B :=
  ⟨fun e => by have := h.2 0 (by simp [e]); simpa using this, by have := h.1; simpa using this, fun i hi => by have := h.2 (i + 1) (by simpa using hi); simpa using this⟩
theorem up_count : ∀ (A B : List Bool), Up A B → A.count true ≤ B.count true ∧ (A.count true = B.count true → A = B)
  | [], [], _ => ⟨Nat.le_refl _, fun _ => rfl⟩
  | [], b :: B, h => by have := h.1; simp at this
  | a :: A, [], h => by have := h.1; simp at this
  | a :: A, b :: B, h => by
    obtain ⟨h1, h2⟩ := up_cons h
    obtain ⟨h3, h4⟩ := up_count A B h2
    rw [List.count_cons, List.count_cons]
    cases a <;> cases b <;> simp at h1 ⊢ <;> first | exact ⟨h3, h4⟩ | (constructor <;> omega)
theorem round_gain {l : List Pc} {roots : List Int} {A B : List Bool} {r : Nat} (hs : storeOk l = true) (hA : RInv l roots A) (hB : RInv l roots B) (hup : Up A B)
    (hsucc : ∀ (i : Nat) (x : Pc), A[i]? = some true → l[i]? = some x → ∀ y ∈ prs x, hasP l y = true → OnA B l y) (h : Cpl l roots A ∨ r ≤ A.count true) : Cpl l roots B ∨ r + 1 ≤ B.count true := by
  rcases h with h | h
  · exact .inl fun i x hx hR => hup.2 i (h i x hx hR)
  · by_cases hr : r + 1 ≤ B.count true
    · exact .inr hr
    · obtain ⟨h1, h2⟩ := up_count A B hup
      obtain rfl := h2 (by omega)
      exact .inl (cpl_of hs hA.rts hsucc)
theorem round_end {l : List Pc} {roots : List Int} {A : List Bool} (hs : storeOk l = true) (hA : RInv l roots A) (h : Cpl l roots A ∨ l.length ≤ A.count true) : A = reachB l roots := by
  refine marks_all hs hA.len hA.snd ?_
  rcases h with h | h
  · exact h
  · have hall : ∀ b ∈ A, b = true := by
      have : A.count true = A.length := by have := List.count_le_length (a := true) (l := A); have := hA.len; omega
      exact fun b hb => ((List.count_eq_length.1 this) b hb).symm
    intro i x hx _
    have hi : i < A.length := by have := (List.getElem?_eq_some_iff.1 hx).1; rw [hA.len]; exact this
    rw [List.getElem?_eq_getElem hi, hall _ (List.getElem_mem hi)]
/-- All pieces with a print are marked. -/
def markY (l : List Pc) (y : Int) (A : List Bool) : List Bool := List.zipWith (fun b (p : Pc) => b || decide (p.print = y)) A l
theorem markY_len {l : List Pc} {y : Int} {A : List Bool} (h : A.length = l.length) : (markY l y A).length = l.length := by simp [markY, h]
theorem markY_get {l : List Pc} {y : Int} {A : List Bool} {i : Nat} {b : Bool} {x : Pc} (hA : A[i]? = some b) (hx : l[i]? = some x) : (markY l y A)[i]? = some (b || decide (x.print = y)) := by
  unfold markY
  rw [List.getElem?_zipWith, hA, hx]
theorem markY_up {l : List Pc} {y : Int} {A : List Bool} (h : A.length = l.length) : Up A (markY l y A) := by
  refine ⟨by rw [markY_len h, h], fun i hi => ?_⟩
  have hi2 := (List.getElem?_eq_some_iff.1 hi).1
  have hx : l[i]? = some (l[i]'(by omega)) := List.getElem?_eq_getElem _
  rw [markY_get hi hx]; rfl
theorem markY_on {l : List Pc} {y : Int} {A : List Bool} (h : A.length = l.length) (hs : storeOk l = true) (hp : hasP l y = true) : OnA (markY l y A) l y := by
  obtain ⟨x, hx, hxy⟩ := has_spot hs hp
  have hi : findAt l y < A.length := by have := (List.getElem?_eq_some_iff.1 hx).1; omega
  exact ⟨_, x, by rw [markY_get (List.getElem?_eq_getElem hi) hx, hxy]; simp, hx, hxy⟩
theorem markY_inv {l : List Pc} {roots : List Int} {y : Int} {A : List Bool} (h : RInv l roots A) (hy : hasP l y = true → Rch l roots y) : RInv l roots (markY l y A) := by
  refine ⟨markY_len h.len, ?_, fun z hz hp => (markY_up h.len).on (h.rts z hz hp)⟩
  intro i x hi hx
  have hiA : i < A.length := by have := (List.getElem?_eq_some_iff.1 hx).1; rw [h.len]; exact this
  rw [markY_get (List.getElem?_eq_getElem hiA) hx] at hi
  cases hb : A[i] with
  | true => exact h.snd i x (by rw [List.getElem?_eq_getElem hiA, hb]) hx
  | false =>
    rw [hb] at hi
    have hxy : x.print = y := by simpa using hi
    rw [hxy]
    exact hy (by rw [← hxy]; exact has_mem (List.mem_of_getElem? hx))

/-! ### The prints -/
theorem reach_succ {l : List Pc} {f : Pc → Bool} {k : Nat} {x : Pc} (h : l[k]? = some x) : ((l.take (k + 1)).filter f).map (·.print) = ((l.take k).filter f).map (·.print) ++ (if f x then [x.print] else []) := by
  rw [take_snoc' h, List.filter_append, List.map_append]
  cases hf : f x <;> simp [hf]
theorem reachOf_off {l : List Pc} {roots : List Int} (h : storeOk l = false) : reachOf l roots = [] := by unfold reachOf; rw [h]; rfl
theorem reachOf_on {l : List Pc} {roots : List Int} (h : storeOk l = true) : reachOf l roots = (l.filter fun p => inR l roots p.print).map (·.print) := by unfold reachOf; rw [h]; rfl
theorem reachOf_len {l : List Pc} {roots : List Int} : (reachOf l roots).length ≤ 40 := by
  cases h : storeOk l
  · rw [reachOf_off h]; simp
  · rw [reachOf_on h, List.length_map]
    exact Nat.le_trans (List.length_filter_le _ _) (st_in h).1

end Go.Proofs.YtkfkcbceoekgjaaDoor
