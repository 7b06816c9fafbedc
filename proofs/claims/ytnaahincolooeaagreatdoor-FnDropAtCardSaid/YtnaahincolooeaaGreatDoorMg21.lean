/- Walks and plain facts, joined: GoodP, ReachP, Count, Miss. -/
import Derived.Test.YtnaahincolooeaaGreatDoorMg17
set_option linter.unusedVariables false
set_option linter.unusedSimpArgs false

/- Drawn stores: no folder leads to itself, and nothing that is named is missing. No program in sight. -/
namespace Go.Proofs.YtnaahincolooeaaGreatDoor
open Go.RowKit

/-- What the folder of a text names. -/
noncomputable def nmd (t : ByteArray) : List Int := (entsOf (bs t)).map (·.print)
/-- Ranks fall from a folder to what it names; what is named is there, or it is L. -/
def GoodL (s : List Pc) (L : Int) : Prop := storeOk s = true ∧ ∃ rank : Int → Nat, ∀ n t, getP s n = some t → ∀ y ∈ nmd t, y = L ∨ (hasP s y = true ∧ rank y < rank n)
def Good (s : List Pc) : Prop := storeOk s = true ∧ ∃ rank : Int → Nat, ∀ n t, getP s n = some t → ∀ y ∈ nmd t, hasP s y = true ∧ rank y < rank n
theorem Good.l {s : List Pc} (h : Good s) (L : Int) : GoodL s L := ⟨h.1, h.2.imp fun _ hr n t hg y hy => .inr (hr n t hg y hy)⟩
theorem nmd_pv {t : ByteArray} {y : Int} (h : y ∈ nmd t) : pv y = true := by
  unfold nmd at h
  obtain ⟨e, he, rfl⟩ := List.mem_map.1 h
  exact (entOk_iff.1 (ents_all (entsOf_ok _) he)).2
theorem GoodL.good {s : List Pc} (h : GoodL s (-1)) : Good s := by
  refine ⟨h.1, h.2.imp fun r hr n t hg y hy => ?_⟩
  rcases hr n t hg y hy with rfl | h1
  · have := nmd_pv hy; simp [pv, inB] at this
  · exact h1
theorem nmd_file {t : ByteArray} (h : isFile (bs t) = true) : nmd t = [] := by unfold nmd entsOf; rw [file_no_folder h]; rfl
theorem nmd_folder {es : List Ent} (h : entsOk es = true) : nmd (strL (folderText es)) = es.map (·.print) := by unfold nmd entsOf; rw [bs_strL, readFolder_self h]; rfl
theorem has_get {s : List Pc} {n : Int} (h : hasP s n = true) : ∃ t, getP s n = some t := by unfold hasP at h; exact Option.isSome_iff_exists.1 h
theorem get_has {s : List Pc} {n : Int} {t : ByteArray} (h : getP s n = some t) : hasP s n = true := by unfold hasP; rw [h]; rfl
theorem Le.has {s x : List Pc} (h : Le s x) {n : Int} (hn : hasP s n = true) : hasP x n = true := by obtain ⟨t, ht⟩ := has_get hn; exact get_has (h _ _ ht)

theorem sum_ge {f : Int → Nat} : ∀ {l : List Int} {y : Int}, y ∈ l → f y ≤ (l.map f).sum
  | x :: r, y, h => by
    rw [List.map_cons, List.sum_cons]
    rcases List.mem_cons.1 h with rfl | h
    · omega
    · have := sum_ge (f := f) h; omega
theorem goodL_put {s : List Pc} {L : Int} {t : ByteArray} (h : GoodL s L) (hp : (putS s t).2.2 = true) (hn : ∀ y ∈ nmd t, y = L ∨ hasP s y = true) : GoodL (putS s t).1 L := by
  obtain ⟨hs, rank, hr⟩ := h
  obtain ⟨h1, h2, h3, h4⟩ := put_get hs hp
  have hle : Le s (putS s t).1 := fun n u hu => (h4 n u).2 (.inl hu)
  cases hg : getP s (printOf (bs t)) with
  | some u =>
    have hu : u = t := by
      have e1 := (h4 _ _).2 (.inl hg)
      have e2 := (h4 (printOf (bs t)) t).2 (.inr ⟨rfl, rfl⟩)
      rw [e1] at e2; exact Option.some.inj e2
    subst hu
    refine ⟨h1, rank, fun n v hv y hy => ?_⟩
    have hv' : getP s n = some v := by
      rcases (h4 n v).1 hv with h5 | ⟨rfl, rfl⟩
      · exact h5
      · exact hg
    exact (hr n v hv' y hy).imp id fun h5 => ⟨hle.has h5.1, h5.2⟩
  | none =>
    have hnq : ∀ y, hasP s y = true → y ≠ printOf (bs t) := fun y hy e => by subst e; unfold hasP at hy; rw [hg] at hy; cases hy
    refine ⟨h1, fun n => if n = printOf (bs t) then ((nmd t).map rank).sum + 1 else rank n, fun n v hv y hy => ?_⟩
    rcases (h4 n v).1 hv with h5 | ⟨rfl, rfl⟩
    · rcases hr n v h5 y hy with h6 | ⟨h6, h7⟩
      · exact .inl h6
      · right
        refine ⟨hle.has h6, ?_⟩
        simp only []
        rw [if_neg (hnq y h6), if_neg (hnq n (get_has h5))]
        exact h7
    · rcases hn y hy with h6 | h6
      · exact .inl h6
      · right
        refine ⟨hle.has h6, ?_⟩
        simp only []
        rw [if_neg (hnq y h6), if_pos trivial]
        have := sum_ge (f := rank) hy
        omega
/-- The last text is the one that was missing, a file. -/
theorem goodL_last {s : List Pc} {t : ByteArray} (h : GoodL s (printOf (bs t))) (hp : (putS s t).2.2 = true) (hf : isFile (bs t) = true) : Good (putS s t).1 := by
  have h0 := goodL_put h hp (by rw [nmd_file hf]; simp)
  obtain ⟨hs, rank, hr⟩ := h0
  have hL := ((put_get h.1 hp).2.2.2 (printOf (bs t)) t).2 (.inr ⟨rfl, rfl⟩)
  refine ⟨hs, fun n => if n = printOf (bs t) then 0 else rank n + 1, fun n v hv y hy => ?_⟩
  have hne : n ≠ printOf (bs t) := by
    rintro rfl
    rw [hL] at hv
    obtain rfl := Option.some.inj hv
    rw [nmd_file hf] at hy; simp at hy
  simp only []
  rw [if_neg hne]
  rcases hr n v hv y hy with rfl | ⟨h6, h7⟩
  · rw [if_pos rfl]; exact ⟨get_has hL, by omega⟩
  · refine ⟨h6, ?_⟩
    split <;> omega
/-- Each text names what is there, what was put ahead of it, or L. -/
def Chain (s : List Pc) (L : Int) : List ByteArray → Prop
  | [] => True
  | t :: r => (∀ y ∈ nmd t, y = L ∨ hasP s y = true) ∧ ((putS s t).2.2 = true → Chain (putS s t).1 L r)
theorem chain_good : ∀ (T : List ByteArray) {s s' : List Pc} {L : Int}, GoodL s L → Chain s L T → putAll s T = some s' → GoodL s' L
  | [], s, s', L, h, _, hp => by simp only [putAll, Option.some.injEq] at hp; rw [← hp]; exact h
  | t :: r, s, s', L, h, hc, hp => by
    unfold putAll at hp
    split at hp
    · rename_i h1
      exact chain_good r (goodL_put h h1 hc.1) (hc.2 h1) hp
    · cases hp
theorem chain_app : ∀ (T : List ByteArray) {s : List Pc} {L : Int} {t : ByteArray}, Chain s L T → (∀ s1, putAll s T = some s1 → ∀ y ∈ nmd t, y = L ∨ hasP s1 y = true) → Chain s L (T ++ [t])
  | [], s, L, t, _, h => ⟨h s rfl, fun _ => trivial⟩
  | x :: r, s, L, t, hc, h => ⟨hc.1, fun h1 => chain_app r (hc.2 h1) (fun s1 hs1 => h s1 (by unfold putAll; rw [if_pos h1]; exact hs1))⟩
theorem upT_chain {s : List Pc} (hs : Good s) (leaf : Int) (hl : pv leaf = true) : ∀ (FZ : List (List Ent × ByteArray)) (T : List ByteArray) (p : Int), (∀ x ∈ FZ, ∀ e ∈ x.1, hasP s e.print = true) → upT FZ leaf = some (T, p) →
    Chain s leaf T ∧ (p = leaf ∨ ∀ s1, putAll s T = some s1 → hasP s1 p = true)
  | [], T, p, _, h => by
    simp only [upT, Option.some.injEq, Prod.mk.injEq] at h
    rw [← h.1]; exact ⟨trivial, .inl h.2.symm⟩
  | (es, nm) :: r, T, p, hF, h => by
    unfold upT at h
    cases hu : upT r leaf with
    | none => rw [hu] at h; cases h
    | some TP =>
      obtain ⟨T0, ch⟩ := TP
      rw [hu] at h
      simp only [] at h
      split at h
      · rename_i hpe
        simp only [Option.some.injEq, Prod.mk.injEq] at h
        obtain ⟨rfl, rfl⟩ := h
        obtain ⟨c1, c2⟩ := upT_chain hs leaf hl r T0 ch (fun x hx => hF x (by simp [hx])) hu
        obtain ⟨e1, e2, e3⟩ := putEnt_ok hpe
        rw [e3]
        refine ⟨chain_app T0 c1 (fun s1 hs1 y hy => ?_), .inr (fun s1 hs1 => ?_)⟩
        · rw [nmd_folder e2] at hy
          obtain ⟨e, he, rfl⟩ := List.mem_map.1 hy
          rcases (putE_mem (ents_asc e1)).1 he with rfl | he
          · exact c2.imp id (fun c => c s1 hs1)
          · exact .inr ((putAll_le hs.1 hs1).2.1.has (hF (es, nm) (by simp) e he.1))
        · have := (putAll_le hs.1 hs1).2.2 (strL (folderText (putE es ⟨nm, ch⟩))) (by simp)
          rw [bs_strL] at this
          exact get_has this.2
      · cases h
theorem folder_names {s : List Pc} (hs : Good s) {pr : Int} {es : List Ent} (h : folderAt s pr = some es) : ∀ e ∈ es, hasP s e.print = true := by
  intro e he
  unfold folderAt at h
  cases hg : getP s pr with
  | none => rw [hg] at h; cases h
  | some t =>
    rw [hg] at h
    have h1 : readFolder (bs t) = some es := h
    obtain ⟨rank, hr⟩ := hs.2
    exact (hr pr t hg e.print (by unfold nmd entsOf; rw [h1]; exact List.mem_map.2 ⟨e, he, rfl⟩)).1
theorem way_names {s : List Pc} (hs : Good s) : ∀ (parts : List ByteArray) (q : Option Int) (F : List (List Ent)) (z : Option Int), wayW s q parts = some (F, z) → ∀ es ∈ F, ∀ e ∈ es, hasP s e.print = true
  | [], q, F, z, h => by simp [wayW] at h; rw [h.1]; simp
  | nm :: r, q, F, z, h => by
    unfold wayW at h
    split at h
    · cases h
    · rename_i es hes
      split at h
      · cases h
      · rename_i F' z' hw
        simp only [Option.some.injEq, Prod.mk.injEq] at h
        rw [← h.1]
        intro x hx
        rcases List.mem_cons.1 hx with rfl | hx
        · cases q with
          | none => simp [folderQ] at hes; subst hes; simp
          | some pr => exact folder_names hs hes
        · exact way_names hs r _ F' z' hw x hx
theorem write_good {s s' : List Pc} {root p : Int} {ws : List ByteArray} {content : List UInt8} (hs : Good s) (hc : contOk content = true) (h : writeTo s root ws content = some (s', p)) : Good s' := by
  have hft := file_textOk hc
  unfold writeTo at h
  cases hw : wayW s (some root) ws with
  | none => rw [hw] at h; cases h
  | some FZ =>
    obtain ⟨F, z⟩ := FZ
    rw [hw] at h
    simp only [] at h
    split at h
    · cases h
    · cases hu : upT (F.zip ws) (printOf (fileText content)) with
      | none => rw [hu] at h; cases h
      | some TP =>
        obtain ⟨T, p'⟩ := TP
        rw [hu] at h
        simp only [] at h
        rw [putAll_same (T' := T ++ [strL (fileText content)]) hs.1 (fun t => by simp [or_comm]), putAll_append] at h
        have hch := (upT_chain hs _ (printOf_pv hft.1) (F.zip ws) T p' (fun x hx e he => way_names hs ws _ F z hw x.1 (List.of_mem_zip hx).1 e he) hu).1
        cases hpa : putAll s T with
        | none => rw [hpa] at h; cases h
        | some s1 =>
          rw [hpa] at h
          simp only [Option.bind_some] at h
          rw [putAll_one] at h
          have hg := chain_good T (hs.l _) hch hpa
          by_cases hput : (putS s1 (strL (fileText content))).2.2 = true
          · rw [if_pos hput] at h
            simp only [Option.some.injEq, Prod.mk.injEq] at h
            rw [← h.1]
            refine goodL_last ?_ hput (by rw [bs_strL]; exact hft.2)
            rw [bs_strL]; exact hg
          · rw [if_neg hput] at h
            cases h
theorem dropT_chain {s : List Pc} (hs : Good s) : ∀ (FZ : List (List Ent × ByteArray)) (T : List ByteArray) (p : Int), Named FZ → (∀ x ∈ FZ, ∀ e ∈ x.1, hasP s e.print = true) → dropT FZ = some (T, p) →
    Chain s (-1) T ∧ ∀ s1, putAll s T = some s1 → hasP s1 p = true
  | [], T, p, _, _, h => by cases h
  | (es, nm) :: r, T, p, hN, hF, h => by
    have ho := hN (es, nm) (by simp)
    have hr : Named r := fun x hx => hN x (by simp [hx])
    unfold dropT at h
    cases hd : dropT r with
    | none =>
      rw [hd] at h
      simp only [] at h
      split at h
      · cases h
      · simp only [Option.some.injEq, Prod.mk.injEq] at h
        obtain ⟨rfl, rfl⟩ := h
        have hok := dropE_ok ho.1 nm
        refine ⟨⟨fun y hy => ?_, fun _ => trivial⟩, fun s1 hs1 => ?_⟩
        · rw [nmd_folder hok] at hy
          obtain ⟨e, he, rfl⟩ := List.mem_map.1 hy
          exact .inr (hF (es, nm) (by simp) e (dropE_mem.1 he).1)
        · have := (putAll_le hs.1 hs1).2.2 _ (by simp; rfl)
          rw [bs_strL] at this
          exact get_has this.2
    | some TP =>
      obtain ⟨T0, ch⟩ := TP
      rw [hd] at h
      simp only [Option.some.injEq, Prod.mk.injEq] at h
      obtain ⟨rfl, rfl⟩ := h
      obtain ⟨c, hc⟩ := ho.2
      have hch := dropT_pv hr hd
      have e2 := putE_there ho.1 hc hch
      rw [putEnt_on ho.1 e2]
      obtain ⟨c1, c2⟩ := dropT_chain hs r T0 ch hr (fun x hx => hF x (by simp [hx])) hd
      refine ⟨chain_app T0 c1 (fun s1 hs1 y hy => ?_), fun s1 hs1 => ?_⟩
      · rw [nmd_folder e2] at hy
        obtain ⟨e, he, rfl⟩ := List.mem_map.1 hy
        rcases (putE_mem (ents_asc ho.1)).1 he with rfl | he
        · exact .inr (c2 s1 hs1)
        · exact .inr ((putAll_le hs.1 hs1).2.1.has (hF (es, nm) (by simp) e he.1))
      · have := (putAll_le hs.1 hs1).2.2 (strL (folderText (putE es ⟨nm, ch⟩))) (by simp)
        rw [bs_strL] at this
        exact get_has this.2
theorem wayD_names {s : List Pc} (hs : Good s) : ∀ (parts : List ByteArray) (pr : Int), ∀ x ∈ wayD s pr parts, ∀ e ∈ x.1, hasP s e.print = true
  | [], _, x, hx => by simp [wayD] at hx
  | nm :: r, pr, x, hx => by
    unfold wayD at hx
    rcases List.mem_cons.1 hx with rfl | hx
    · intro e he
      simp only [entsOf_at] at he
      cases hf : folderAt s pr with
      | none => rw [hf] at he; simp at he
      | some es => rw [hf] at he; exact folder_names hs hf e he
    · exact wayD_names hs r _ x hx
theorem entsOk_nil : entsOk [] = true := rfl
theorem drop_good {s s' : List Pc} {root p : Int} {ws : List ByteArray} (hs : Good s) (hn : Named (wayD s root ws)) (h : dropOff s root ws = some (s', p)) : Good s' := by
  unfold dropOff dropTs at h
  cases hd : dropT (wayD s root ws) with
  | none =>
    rw [hd] at h
    simp only [Option.getD_none] at h
    cases hpa : putAll s [strL (folderText [])] with
    | none => rw [hpa] at h; cases h
    | some s1 =>
      rw [hpa] at h
      simp only [Option.some.injEq, Prod.mk.injEq] at h
      rw [← h.1]
      have hch : Chain s (-1) [strL (folderText [])] := ⟨fun y hy => by rw [nmd_folder entsOk_nil] at hy; simp at hy, fun _ => trivial⟩
      exact (chain_good _ (hs.l (-1)) hch hpa).good
  | some TP =>
    obtain ⟨T, p'⟩ := TP
    rw [hd] at h
    simp only [Option.getD_some] at h
    cases hpa : putAll s T with
    | none => rw [hpa] at h; cases h
    | some s1 =>
      rw [hpa] at h
      simp only [Option.some.injEq, Prod.mk.injEq] at h
      rw [← h.1]
      exact (chain_good _ (hs.l (-1)) (dropT_chain hs _ T p' hn (wayD_names hs ws root) hd).1 hpa).good

/-- Good stores stay good. -/
theorem writeAt_good {s : List Pc} {root : Int} {path content : List UInt8} {ws : List (List UInt8)} (hs : Good s) (hp : pathParts path = some ws) (h0 : ws ≠ []) (hc : contOk content = true) :
    Good (writeAt s root path content).1 ∧ Le s (writeAt s root path content).1 := by
  rw [writeAt_eq hs.1 hp h0 hc]
  cases h : writeTo s root (ws.map strL) content with
  | none => exact ⟨hs, Le.rfl' s⟩
  | some r =>
    obtain ⟨s', p⟩ := r
    refine ⟨write_good hs hc h, ?_⟩
    unfold writeTo at h
    split at h
    · cases h
    · split at h
      · cases h
      · split at h
        · cases h
        · split at h
          · cases h
          · rename_i hpa
            simp only [Option.some.injEq, Prod.mk.injEq] at h
            rw [← h.1]
            exact (putAll_le hs.1 hpa).2.1
theorem dropAt_good {s : List Pc} {root : Int} {path : List UInt8} {ws : List (List UInt8)} (hs : Good s) (hp : pathParts path = some ws) (h0 : ws ≠ []) :
    Good (dropAt s root path).1 ∧ Le s (dropAt s root path).1 := by
  by_cases hw : (walkAt s root (ws.map strL)).2 = true
  · rw [dropAt_eq hs.1 hp h0 hw]
    cases h : dropOff s root (ws.map strL) with
    | none => exact ⟨hs, Le.rfl' s⟩
    | some r =>
      obtain ⟨s', p⟩ := r
      refine ⟨drop_good hs (walk_named _ _ _ hw) h, ?_⟩
      unfold dropOff at h
      split at h
      · cases h
      · rename_i hpa
        simp only [Option.some.injEq, Prod.mk.injEq] at h
        rw [← h.1]
        exact (putAll_le hs.1 hpa).2.1
  · unfold dropAt
    rw [hp]
    simp only []
    rw [if_neg (fun h => h.elim (fun h => by rw [hs.1] at h; cases h) h0), if_pos (by simpa using hw)]
    exact ⟨hs, Le.rfl' s⟩

end Go.Proofs.YtnaahincolooeaaGreatDoor

/- What roots reach in a store, in plain Lean. -/
namespace Go.Proofs.YtnaahincolooeaaGreatDoor
open Go.RowKit

/-- A set of prints that has the roots that are there, and with a piece all that its folder names and that is there. -/
def Shut (l : List Pc) (roots : List Int) (S : Int → Prop) : Prop :=
  (∀ y ∈ roots, hasP l y = true → S y) ∧ ∀ x ∈ l, S x.print → ∀ y ∈ prs x, hasP l y = true → S y
def Rch (l : List Pc) (roots : List Int) (y : Int) : Prop := ∀ S : Int → Prop, Shut l roots S → S y
theorem rch_root {l : List Pc} {roots : List Int} {y : Int} (h : y ∈ roots) (hy : hasP l y = true) : Rch l roots y := fun _ hS => hS.1 y h hy
theorem rch_step {l : List Pc} {roots : List Int} {x : Pc} {y : Int} (hx : x ∈ l) (h : Rch l roots x.print) (hy : y ∈ prs x) (hp : hasP l y = true) : Rch l roots y := fun S hS => hS.2 x hx (h S hS) y hy hp
noncomputable def inR (l : List Pc) (roots : List Int) (y : Int) : Bool := @decide (Rch l roots y) (Classical.propDecidable _)
theorem inR_iff {l : List Pc} {roots : List Int} {y : Int} : inR l roots y = true ↔ Rch l roots y := by unfold inR; simp
noncomputable def reachB (l : List Pc) (roots : List Int) : List Bool := l.map fun p => inR l roots p.print
noncomputable def reachOf (l : List Pc) (roots : List Int) : List Int := if storeOk l then (l.filter fun p => inR l roots p.print).map (·.print) else []
theorem reachB_len (l : List Pc) (roots : List Int) : (reachB l roots).length = l.length := by simp [reachB]

/-- The piece with a print is marked. -/
def OnA (A : List Bool) (l : List Pc) (y : Int) : Prop := ∃ (i : Nat) (x : Pc), A[i]? = some true ∧ l[i]? = some x ∧ x.print = y
theorem print_one {l : List Pc} (hs : storeOk l = true) {i j : Nat} {x z : Pc} (hi : l[i]? = some x) (hj : l[j]? = some z) (h : x.print = z.print) : i = j := by
  rcases Nat.lt_trichotomy i j with h1 | h1 | h1
  · have := asc_get (st_asc hs) hi hj h1; omega
  · exact h1
  · have := asc_get (st_asc hs) hj hi h1; omega
theorem has_mem {l : List Pc} {x : Pc} (h : x ∈ l) : hasP l x.print = true := hasP_iff.2 ⟨x, h, rfl⟩
theorem has_spot {l : List Pc} {y : Int} (hs : storeOk l = true) (h : hasP l y = true) : ∃ x, l[findAt l y]? = some x ∧ x.print = y := by
  refine Classical.byContradiction (fun hc => ?_)
  have := find_no (st_asc hs) (n := y) (fun x hx e => hc ⟨x, hx, e⟩)
  unfold hasP at h
  rw [this] at h; cases h

/-- Marks that are right as far as they go and lack nothing are those of what is reached. -/
theorem marks_all {l : List Pc} {roots : List Int} {A : List Bool} (hs : storeOk l = true) (hl : A.length = l.length)
    (snd : ∀ (i : Nat) (x : Pc), A[i]? = some true → l[i]? = some x → Rch l roots x.print) (cpl : ∀ (i : Nat) (x : Pc), l[i]? = some x → Rch l roots x.print → A[i]? = some true) : A = reachB l roots := by
  apply List.ext_getElem?
  intro i
  unfold reachB
  rw [List.getElem?_map]
  cases hx : l[i]? with
  | none =>
    have := List.getElem?_eq_none_iff.1 hx
    rw [List.getElem?_eq_none (by omega)]; rfl
  | some x =>
    have hi : i < A.length := by have := (List.getElem?_eq_some_iff.1 hx).1; omega
    have hA : A[i]? = some A[i] := List.getElem?_eq_getElem hi
    rw [hA]
    simp only [Option.map_some]
    cases hv : A[i] with
    | true =>
      rw [hv] at hA
      rw [inR_iff.2 (snd i x hA hx)]
    | false =>
      cases hr : inR l roots x.print with
      | false => rfl
      | true =>
        have := cpl i x hx (inR_iff.1 hr)
        rw [hA, hv] at this; cases this
theorem cpl_of {l : List Pc} {roots : List Int} {A : List Bool} (hs : storeOk l = true) (hr : ∀ y ∈ roots, hasP l y = true → OnA A l y)
    (hc : ∀ (i : Nat) (x : Pc), A[i]? = some true → l[i]? = some x → ∀ y ∈ prs x, hasP l y = true → OnA A l y) : ∀ (i : Nat) (x : Pc), l[i]? = some x → Rch l roots x.print → A[i]? = some true := by
  intro i x hx hR
  have : OnA A l x.print := hR (OnA A l) ⟨hr, fun z hz hS y hy hp => by
    obtain ⟨j, z', h1, h2, h3⟩ := hS
    obtain ⟨k, hk, e⟩ := List.getElem_of_mem hz
    have hzk : l[k]? = some z := by rw [List.getElem?_eq_getElem hk, e]
    obtain rfl := print_one hs h2 hzk h3
    rw [h2] at hzk
    obtain rfl := Option.some.inj hzk
    exact hc j z' h1 h2 y hy hp⟩
  obtain ⟨j, z, h1, h2, h3⟩ := this
  obtain rfl := print_one hs h2 hx h3
  exact h1

/-! ### The program's way: a heap of pieces to look at -/
structure DInv (l : List Pc) (roots : List Int) (A : List Bool) (todo : List Nat) (T : List Int) : Prop where
  len : A.length = l.length
  snd : ∀ (i : Nat) (x : Pc), A[i]? = some true → l[i]? = some x → Rch l roots x.print
  tin : ∀ i ∈ todo, A[i]? = some true
  sndT : ∀ y ∈ T, hasP l y = true → Rch l roots y
  rts : ∀ y ∈ roots, hasP l y = true → OnA A l y ∨ y ∈ T
  cls : ∀ (i : Nat) (x : Pc), A[i]? = some true → l[i]? = some x → i ∉ todo → ∀ y ∈ prs x, hasP l y = true → OnA A l y ∨ y ∈ T
def reachStep (l : List Pc) (y : Int) (s : List Bool × List Nat) : List Bool × List Nat :=
  if hasP l y = true ∧ s.1[findAt l y]? = some false then (s.1.set (findAt l y) true, s.2 ++ [findAt l y]) else s
theorem onA_set {A : List Bool} {l : List Pc} {y : Int} {i : Nat} (h : OnA A l y) : OnA (A.set i true) l y := by
  obtain ⟨j, x, h1, h2, h3⟩ := h
  refine ⟨j, x, ?_, h2, h3⟩
  by_cases e : i = j
  · subst e
    rw [List.getElem?_set_self (List.getElem?_eq_some_iff.1 h1).1]
  · rw [List.getElem?_set_ne e]; exact h1
theorem set_true {A : List Bool} {i j : Nat} (h : (A.set i true)[j]? = some true) : j = i ∨ A[j]? = some true := by
  by_cases e : i = j
  · exact .inl e.symm
  · rw [List.getElem?_set_ne e] at h; exact .inr h
theorem dinv_step {l : List Pc} {roots : List Int} {A : List Bool} {todo : List Nat} {y : Int} {T : List Int} (hs : storeOk l = true) (h : DInv l roots A todo (y :: T)) :
    DInv l roots (reachStep l y (A, todo)).1 (reachStep l y (A, todo)).2 T := by
  unfold reachStep
  split
  · rename_i hc
    obtain ⟨hp, hA⟩ := hc
    obtain ⟨x, hx, hxy⟩ := has_spot hs hp
    have hi := (List.getElem?_eq_some_iff.1 hA).1
    have hon : OnA (A.set (findAt l y) true) l y := ⟨findAt l y, x, by rw [List.getElem?_set_self hi], hx, hxy⟩
    refine ⟨by simp [h.len], ?_, ?_, fun z hz => h.sndT z (List.mem_cons_of_mem _ hz), ?_, ?_⟩
    · intro j z hj hz
      rcases set_true hj with rfl | hj'
      · rw [hx] at hz
        obtain rfl := Option.some.inj hz
        rw [hxy]; exact h.sndT y (List.mem_cons_self) hp
      · exact h.snd j z hj' hz
    · intro j hj
      rcases List.mem_append.1 hj with h1 | h1
      · by_cases e : findAt l y = j
        · rw [e, List.getElem?_set_self (by omega)]
        · rw [List.getElem?_set_ne e]; exact h.tin j h1
      · have : j = findAt l y := by simpa using h1
        rw [this, List.getElem?_set_self hi]
    · intro z hz hpz
      rcases h.rts z hz hpz with h1 | h1
      · exact .inl (onA_set h1)
      · rcases List.mem_cons.1 h1 with rfl | h2
        · exact .inl hon
        · exact .inr h2
    · intro j z hj hz hnt u hu hpu
      have hnt' : j ∉ todo ∧ j ≠ findAt l y := by
        constructor
        · exact fun h1 => hnt (List.mem_append_left _ h1)
        · intro e; exact hnt (by simp [e])
      rcases set_true hj with h1 | h1
      · exact absurd h1 hnt'.2
      · rcases h.cls j z h1 hz hnt'.1 u hu hpu with h2 | h2
        · exact .inl (onA_set h2)
        · rcases List.mem_cons.1 h2 with rfl | h3
          · exact .inl hon
          · exact .inr h3
  · rename_i hc
    have hon : hasP l y = true → OnA A l y := by
      intro hp
      obtain ⟨x, hx, hxy⟩ := has_spot hs hp
      have hi : findAt l y < A.length := by have := (List.getElem?_eq_some_iff.1 hx).1; rw [h.len]; exact this
      refine ⟨findAt l y, x, ?_, hx, hxy⟩
      rw [List.getElem?_eq_getElem hi]
      cases hv : A[findAt l y] with
      | true => rfl
      | false => exact absurd ⟨hp, by rw [List.getElem?_eq_getElem hi, hv]⟩ hc
    refine ⟨h.len, h.snd, h.tin, fun z hz => h.sndT z (List.mem_cons_of_mem _ hz), ?_, ?_⟩
    · intro z hz hpz
      rcases h.rts z hz hpz with h1 | h1
      · exact .inl h1
      · rcases List.mem_cons.1 h1 with rfl | h2
        · exact .inl (hon hpz)
        · exact .inr h2
    · intro j z hj hz hnt u hu hpu
      rcases h.cls j z hj hz hnt u hu hpu with h2 | h2
      · exact .inl h2
      · rcases List.mem_cons.1 h2 with rfl | h3
        · exact .inl (hon hpu)
        · exact .inr h3
theorem dinv_start {l : List Pc} {roots : List Int} : DInv l roots (List.replicate l.length false) [] roots := by
  refine ⟨by simp, ?_, by simp, fun y hy hp => rch_root hy hp, fun y hy _ => .inr hy, ?_⟩
  · intro i x hi; rw [List.getElem?_replicate] at hi; split at hi <;> simp at hi
  · intro i x hi; rw [List.getElem?_replicate] at hi; split at hi <;> simp at hi
theorem dinv_pop {l : List Pc} {roots : List Int} {A : List Bool} {todo : List Nat} {i : Nat} {x : Pc} (h : DInv l roots A (todo ++ [i]) []) (hx : l[i]? = some x) : DInv l roots A todo (prs x) := by
  have hi := h.tin i (by simp)
  refine ⟨h.len, h.snd, fun j hj => h.tin j (by simp [hj]), fun y hy hp => rch_step (List.mem_of_getElem? hx) (h.snd i x hi hx) hy hp, ?_, ?_⟩
  · intro y hy hp
    rcases h.rts y hy hp with h1 | h1
    · exact .inl h1
    · cases h1
  · intro j z hj hz hnt u hu hpu
    by_cases e : j = i
    · subst e
      rw [hx] at hz
      obtain rfl := Option.some.inj hz
      exact .inr hu
    · rcases h.cls j z hj hz (by simp [hnt, e]) u hu hpu with h2 | h2
      · exact .inl h2
      · cases h2
theorem dinv_end {l : List Pc} {roots : List Int} {A : List Bool} (hs : storeOk l = true) (h : DInv l roots A [] []) : A = reachB l roots := by
  refine marks_all hs h.len h.snd (cpl_of hs ?_ ?_)
  · intro y hy hp
    rcases h.rts y hy hp with h1 | h1
    · exact h1
    · cases h1
  · intro j z hj hz u hu hpu
    rcases h.cls j z hj hz (by simp) u hu hpu with h2 | h2
    · exact h2
    · cases h2
/-- The number that falls: twice the pieces without a mark, and those to look at. -/
def reachMu (s : List Bool × List Nat) : Nat := 2 * s.1.count false + s.2.length
theorem count_set_true : ∀ (A : List Bool) (i : Nat), A[i]? = some false → (A.set i true).count false + 1 = A.count false
  | [], i, h => by simp at h
  | a :: r, 0, h => by
    simp at h; subst h; simp
  | a :: r, i + 1, h => by
    have := count_set_true r i (by simpa using h)
    rw [List.set_cons_succ, List.count_cons, List.count_cons]
    omega
theorem reachMu_step (l : List Pc) (y : Int) (s : List Bool × List Nat) : reachMu (reachStep l y s) ≤ reachMu s := by
  unfold reachStep
  split
  · rename_i hc
    have := count_set_true s.1 _ hc.2
    simp only [reachMu, List.length_append, List.length_cons, List.length_nil]
    omega
  · exact Nat.le_refl _

/-! ### The reference's way: rounds -/
structure RInv (l : List Pc) (roots : List Int) (A : List Bool) : Prop where
  len : A.length = l.length
  snd : ∀ (i : Nat) (x : Pc), A[i]? = some true → l[i]? = some x → Rch l roots x.print
  rts : ∀ y ∈ roots, hasP l y = true → OnA A l y
def Cpl (l : List Pc) (roots : List Int) (A : List Bool) : Prop := ∀ (i : Nat) (x : Pc), l[i]? = some x → Rch l roots x.print → A[i]? = some true
/-- What was marked stays marked. -/
def Up (A B : List Bool) : Prop := A.length = B.length ∧ ∀ i : Nat, A[i]? = some true → B[i]? = some true
theorem Up.rfl' (A : List Bool) : Up A A := ⟨rfl, fun _ h => h⟩
theorem Up.trans {A B C : List Bool} (h : Up A B) (k : Up B C) : Up A C := ⟨h.1.trans k.1, fun i hi => k.2 i (h.2 i hi)⟩
theorem Up.on {A B : List Bool} {l : List Pc} {y : Int} (h : Up A B) (k : OnA A l y) : OnA B l y := by
  obtain ⟨i, x, h1, h2⟩ := k
  exact ⟨i, x, h.2 i h1, h2⟩
theorem up_cons {a b : Bool} {A B : List Bool} (h : Up (a :: A) (b :: B)) : (a = true → b = true) ∧ Up A B :=
  ⟨fun e => by have := h.2 0 (by simp [e]); simpa using this, by have := h.1; simpa using this, fun i hi => by have := h.2 (i + 1) (by simpa using hi); simpa using this⟩
theorem up_count : ∀ (A B : List Bool), Up A B → A.count true ≤ B.count true ∧ (A.count true = B.count true → A = B)
  | [], [], _ => ⟨Nat.le_refl _, fun _ => rfl⟩
  | [], b :: B, h => by have := h.1; simp at this
  | a :: A, [], h => by have := h.1; simp at this
  | a :: A, b :: B, h => by
    obtain ⟨h1, h2⟩ := up_cons h
    obtain ⟨h3, h4⟩ := up_count A B h2
    rw [List.count_cons, List.count_cons]
    cases a <;> cases b <;> simp at h1 ⊢ <;> first | exact ⟨h3, h4⟩ | (constructor <;> omega)
theorem round_gain {l : List Pc} {roots : List Int} {A B : List Bool} {r : Nat} (hs : storeOk l = true) (hA : RInv l roots A) (hB : RInv l roots B) (hup : Up A B)
    (hsucc : ∀ (i : Nat) (x : Pc), A[i]? = some true → l[i]? = some x → ∀ y ∈ prs x, hasP l y = true → OnA B l y) (h : Cpl l roots A ∨ r ≤ A.count true) : Cpl l roots B ∨ r + 1 ≤ B.count true := by
  rcases h with h | h
  · exact .inl fun i x hx hR => hup.2 i (h i x hx hR)
  · by_cases hr : r + 1 ≤ B.count true
    · exact .inr hr
    · obtain ⟨h1, h2⟩ := up_count A B hup
      obtain rfl := h2 (by omega)
      exact .inl (cpl_of hs hA.rts hsucc)
theorem round_end {l : List Pc} {roots : List Int} {A : List Bool} (hs : storeOk l = true) (hA : RInv l roots A) (h : Cpl l roots A ∨ l.length ≤ A.count true) : A = reachB l roots := by
  refine marks_all hs hA.len hA.snd ?_
  rcases h with h | h
  · exact h
  · have hall : ∀ b ∈ A, b = true := by
      have : A.count true = A.length := by have := List.count_le_length (a := true) (l := A); have := hA.len; omega
      exact fun b hb => ((List.count_eq_length.1 this) b hb).symm
    intro i x hx _
    have hi : i < A.length := by have := (List.getElem?_eq_some_iff.1 hx).1; rw [hA.len]; exact this
    rw [List.getElem?_eq_getElem hi, hall _ (List.getElem_mem hi)]
/-- All pieces with a print are marked. -/
def markY (l : List Pc) (y : Int) (A : List Bool) : List Bool := List.zipWith (fun b (p : Pc) => b || decide (p.print = y)) A l
theorem markY_len {l : List Pc} {y : Int} {A : List Bool} (h : A.length = l.length) : (markY l y A).length = l.length := by simp [markY, h]
theorem markY_get {l : List Pc} {y : Int} {A : List Bool} {i : Nat} {b : Bool} {x : Pc} (hA : A[i]? = some b) (hx : l[i]? = some x) : (markY l y A)[i]? = some (b || decide (x.print = y)) := by
  unfold markY
  rw [List.getElem?_zipWith, hA, hx]
theorem markY_up {l : List Pc} {y : Int} {A : List Bool} (h : A.length = l.length) : Up A (markY l y A) := by
  refine ⟨by rw [markY_len h, h], fun i hi => ?_⟩
  have hi2 := (List.getElem?_eq_some_iff.1 hi).1
  have hx : l[i]? = some (l[i]'(by omega)) := List.getElem?_eq_getElem _
  rw [markY_get hi hx]; rfl
theorem markY_on {l : List Pc} {y : Int} {A : List Bool} (h : A.length = l.length) (hs : storeOk l = true) (hp : hasP l y = true) : OnA (markY l y A) l y := by
  obtain ⟨x, hx, hxy⟩ := has_spot hs hp
  have hi : findAt l y < A.length := by have := (List.getElem?_eq_some_iff.1 hx).1; omega
  exact ⟨_, x, by rw [markY_get (List.getElem?_eq_getElem hi) hx, hxy]; simp, hx, hxy⟩
theorem markY_inv {l : List Pc} {roots : List Int} {y : Int} {A : List Bool} (h : RInv l roots A) (hy : hasP l y = true → Rch l roots y) : RInv l roots (markY l y A) := by
  refine ⟨markY_len h.len, ?_, fun z hz hp => (markY_up h.len).on (h.rts z hz hp)⟩
  intro i x hi hx
  have hiA : i < A.length := by have := (List.getElem?_eq_some_iff.1 hx).1; rw [h.len]; exact this
  rw [markY_get (List.getElem?_eq_getElem hiA) hx] at hi
  cases hb : A[i] with
  | true => exact h.snd i x (by rw [List.getElem?_eq_getElem hiA, hb]) hx
  | false =>
    rw [hb] at hi
    have hxy : x.print = y := by simpa using hi
    rw [hxy]
    exact hy (by rw [← hxy]; exact has_mem (List.mem_of_getElem? hx))

/-! ### The prints -/
theorem reach_succ {l : List Pc} {f : Pc → Bool} {k : Nat} {x : Pc} (h : l[k]? = some x) : ((l.take (k + 1)).filter f).map (·.print) = ((l.take k).filter f).map (·.print) ++ (if f x then [x.print] else []) := by
  rw [take_snoc' h, List.filter_append, List.map_append]
  cases hf : f x <;> simp [hf]
theorem reachOf_off {l : List Pc} {roots : List Int} (h : storeOk l = false) : reachOf l roots = [] := by unfold reachOf; rw [h]; rfl
theorem reachOf_on {l : List Pc} {roots : List Int} (h : storeOk l = true) : reachOf l roots = (l.filter fun p => inR l roots p.print).map (·.print) := by unfold reachOf; rw [h]; rfl
theorem reachOf_len {l : List Pc} {roots : List Int} : (reachOf l roots).length ≤ 40 := by
  cases h : storeOk l
  · rw [reachOf_off h]; simp
  · rw [reachOf_on h, List.length_map]
    exact Nat.le_trans (List.length_filter_le _ _) (st_in h).1

end Go.Proofs.YtnaahincolooeaaGreatDoor

/- Walks: how many entries name each piece. -/
namespace Go.Proofs.YtnaahincolooeaaGreatDoor
open Go.RowKit

/-- For every piece the times that its print stands in a row. -/
def cntIn (l : List Pc) (ns : List Int) : List Int := l.map fun p => ((ns.count p.print : Nat) : Int)
noncomputable def countsOf (l : List Pc) : List Int := if storeOk l then cntIn l (named l) else []
theorem cnt_len (l : List Pc) (ns : List Int) : (cntIn l ns).length = l.length := by simp [cntIn]
theorem cnt_get {l : List Pc} {i : Nat} {x : Pc} (ns : List Int) (h : l[i]? = some x) : (cntIn l ns)[i]? = some ((ns.count x.print : Nat) : Int) := by simp [cntIn, h]
theorem cnt_nil (l : List Pc) : cntIn l [] = List.replicate l.length 0 := by
  unfold cntIn
  rw [List.eq_replicate_iff]
  simp
theorem cnt_snoc (ns : List Int) (y p : Int) : (ns ++ [y]).count p = ns.count p + if y = p then 1 else 0 := by
  rw [List.count_append, List.count_singleton]
  simp
theorem countsOf_off {l : List Pc} (h : storeOk l = false) : countsOf l = [] := by unfold countsOf; rw [h]; rfl
theorem countsOf_on {l : List Pc} (h : storeOk l = true) : countsOf l = cntIn l (named l) := by unfold countsOf; rw [h]; rfl
theorem countsOf_len {l : List Pc} : (countsOf l).length ≤ 40 := by
  cases h : storeOk l
  · rw [countsOf_off h]; simp
  · rw [countsOf_on h, cnt_len]; exact (st_in h).1
theorem cnt_no {l : List Pc} {y : Int} (ns : List Int) (h : hasP l y = false) : cntIn l (ns ++ [y]) = cntIn l ns := by
  unfold cntIn
  refine List.map_congr_left (fun x hx => ?_)
  rw [cnt_snoc, if_neg (fun e => ?_)]
  · rfl
  · have := hasP_iff.2 ⟨x, hx, e.symm⟩
    rw [h] at this; cases this
theorem has_at {l : List Pc} {y : Int} (hs : storeOk l = true) (h : hasP l y = true) : ∃ x, l[findAt l y]? = some x ∧ x.print = y := by
  refine Classical.byContradiction (fun hc => ?_)
  have := find_no (st_asc hs) (n := y) (fun x hx e => hc ⟨x, hx, e⟩)
  unfold hasP at h
  rw [this] at h; cases h
theorem cnt_yes {l : List Pc} {y : Int} (ns : List Int) (hs : storeOk l = true) (h : hasP l y = true) : cntIn l (ns ++ [y]) = (cntIn l ns).set (findAt l y) ((ns.count y : Nat) + 1 : Int) := by
  obtain ⟨x, hx, rfl⟩ := has_at hs h
  apply List.ext_getElem?
  intro j
  by_cases hj : j = findAt l x.print
  · rw [hj, cnt_get _ hx, List.getElem?_set_self (by rw [cnt_len]; exact (List.getElem?_eq_some_iff.1 hx).1), cnt_snoc, if_pos rfl]
    simp
  · rw [List.getElem?_set_ne (Ne.symm hj)]
    unfold cntIn
    rw [List.getElem?_map, List.getElem?_map]
    cases hz : l[j]? with
    | none => rfl
    | some z =>
      have hne : x.print ≠ z.print := by
        rcases Nat.lt_or_gt_of_ne hj with h1 | h1
        · have := asc_get (st_asc hs) hz hx h1; omega
        · have := asc_get (st_asc hs) hx hz h1; omega
      simp only [Option.map_some]
      rw [cnt_snoc, if_neg hne]
      simp
theorem set_flat (xs : List Int) (i : Nat) (z : Int) : (xs.flatMap encI).set i (.int .i64 z) = (xs.set i z).flatMap encI := by
  unfold encI
  rw [← List.map_eq_flatMap, ← List.map_eq_flatMap, List.map_set]


end Go.Proofs.YtnaahincolooeaaGreatDoor

/- Walks: the prints that are missing. -/
namespace Go.Proofs.YtnaahincolooeaaGreatDoor
open Go.RowKit

theorem wantFrom_snoc (l : List Pc) (ns : List Int) (n : Int) : wantFrom l (ns ++ [n]) = wantStep l (wantFrom l ns) n := by
  unfold wantFrom; rw [List.foldl_append]; rfl
theorem missingOf_off {l : List Pc} (h : storeOk l = false) : missingOf l = [] := by unfold missingOf wantedOf; rw [h]; rfl
theorem missingOf_on {l : List Pc} (h : storeOk l = true) : missingOf l = wantFrom l (named l) := by unfold missingOf wantedOf; rw [h]; rfl
theorem missingOf_len {l : List Pc} : (missingOf l).length ≤ 120 := by
  cases h : storeOk l
  · rw [missingOf_off h]; simp
  · rw [missingOf_on h]
    have h1 := wantFrom_len l (named l) []
    have h2 := named_len l
    have h3 := (st_in h).1
    unfold wantFrom
    simp only [List.length_nil] at h1
    omega

set_option maxHeartbeats 2000000 in
set_option maxRecDepth 100000 in
theorem impl_MissingPrints_c (v : Value) (xs : List Pc) (w : World) (h : Pcs w w.heap.size v xs) (hx0 : ∀ x ∈ xs, x.text.size ≤ 1048576) (hl0 : xs.length ≤ 1048576) (hg : Glob w) :
    Calls Tryz.prog 47 #[v] w fun e w' => ∃ v', e = .returned v' ∧ OwnI w' w.heap.size v' (missingOf xs) ∧ Below w.heap.size w w' := by
  obtain ⟨n, hn⟩ : ∃ n, xs.length = n := ⟨_, rfl⟩
  obtain ⟨a, c, rfl, _, _, _⟩ := h.pcs hn
  have HP : Hid (∀ wx, Below w.heap.size w wx → Pcs wx wx.heap.size (.slice a n c) xs) := fun wx hx' => h.on hx'
  have HL := hid hl0
  have HG := hid hg
  clear hn hx0 hg
  cases hok : storeOk xs
  · have HO := hid (missingOf_off hok)
    go_enter Tryz.func47, Tryz.ntmps47
    go_wp2_with fail
    refine (impl_StoreValid_c _ xs _ h).mono ?_
    rw [hok]
    rintro e w1 ⟨rfl, b1⟩
    go_wp2
    go_ret
    exact ⟨_, rfl, by rw [HO.out]; exact Own.nil_, b1⟩
  · have HO := hid (missingOf_on hok)
    have HK := hid hok
    have HX := hid (fun (x : Pc) (hx : x ∈ xs) => show x.text.size ≤ 1000000 by have := textOk_size (pcOk_iff.1 (st_all hok hx)).1; omega)
    obtain ⟨ns, hns⟩ : ∃ ns, named xs = ns := ⟨_, rfl⟩
    have HNS := hid hns
    obtain ⟨m, hm⟩ : ∃ m, ns.length = m := ⟨_, rfl⟩
    have HM := hid hm
    have hl : m ≤ 3145728 := by have := named_len xs; rw [hns, hm] at this; omega
    clear hns
    go_enter Tryz.func47, Tryz.ntmps47
    go_wp2_with fail
    refine (impl_StoreValid_c _ xs _ h).mono ?_
    rw [hok]
    rintro e w0 ⟨rfl, b0⟩
    clear hok h
    go_wp2_with fail
    refine (impl_namedPrints_c _ xs _ (HP.out _ b0) HX.out HL.out (HG.out.on b0)).mono ?_
    rw [HNS.out]
    rintro e w1 ⟨nv, rfl, o1, b1'⟩
    have b1 := bl_then b0 b1'
    have hs1 := b1.size
    have hrd := Rd.of_own o1
    obtain ⟨a', c', rfl, _, _, h3⟩ := hrd.ints hm
    clear b1' o1 hrd hm
    go_wp2
    go_loopw [3, 14] (fun out i wr => ∃ (k : Nat) (acc : List Int), k ≤ m ∧ i = .int .i64 k ∧ OwnI wr w1.heap.size out acc ∧ Hid (acc = wantFrom xs (ns.take k)) ∧ acc.length ≤ k ∧ Below w1.heap.size w1 wr) (fun _ i _ => m - (intOf i).toNat)
    case atStart => exact ⟨0, [], Nat.zero_le _, rfl, Own.nil_, rfl, Nat.zero_le _, Below.refl _ _⟩
    case round =>
      obtain ⟨k, acc, hk, rfl, hown, hacc, hlen, hb⟩ := hrel
      have c1 := bl_then b1 hb
      by_cases hlt : k < m
      · obtain ⟨b, o, x, rfl, hbl, hx, k0⟩ := h3 k hlt
        have j0 := (hb.cell (p := ⟨b, o + k, none⟩) hbl).trans k0
        have HF := hid ((wantFrom_succ (l := xs) hx.out).trans (by rw [← hacc.out]))
        clear k0 h3
        obtain ⟨y, hy⟩ : ∃ y, hasP xs x = y := ⟨_, rfl⟩
        have HY := hid hy
        clear hy
        go_wp2_with fail
        refine (impl_findPiece_c _ xs x _ (HP.out _ c1) HK.out).mono ?_
        rw [HY.out]
        rintro e w4 ⟨rfl, b4⟩
        have hown4 := hown.on b4
        have hb4 := hb.trans (b4.mono hb.size)
        have hB4 := hb4.size
        clear b4 hown hb
        cases y
        · obtain ⟨z, hz⟩ : ∃ z, hasI acc x = z := ⟨_, rfl⟩
          have HZ := hid hz
          clear hz
          go_wp2_with fail
          refine (slices_Contains_c _ acc x _ _ (Rd.of_own hown4)).mono ?_
          rw [HZ.out]
          rintro e w5 ⟨rfl, rfl⟩
          cases z
          · have HS := hid (show wantStep xs acc x = acc ++ [x] by unfold wantStep; rw [HY.out, HZ.out]; rfl)
            go_wp2_with (at_builtin; refine push_int (w0 := w1) rfl _ _ rfl _ _ _ _ _ hown4 hb4 hB4 (Nat.le_refl _) rfl rfl (by omega) ?_; intro v' w' hown' hb' hB' _)
            go_roundw
            case rel => exact ⟨k + 1, _, by omega, by go_num, hown', hid (HF.out.trans HS.out).symm, by simp; omega, hb'⟩
            case measure => simp [intOf]; omega
          · have HS := hid (show wantStep xs acc x = acc by unfold wantStep; rw [HY.out, HZ.out]; rfl)
            go_wp2
            go_roundw
            case rel => exact ⟨k + 1, _, by omega, by go_num, hown4, hid (HF.out.trans HS.out).symm, by omega, hb4⟩
            case measure => simp [intOf]; omega
        · have HS := hid (show wantStep xs acc x = acc by unfold wantStep; rw [HY.out]; rfl)
          go_wp2
          go_roundw
          case rel => exact ⟨k + 1, _, by omega, by go_num, hown4, hid (HF.out.trans HS.out).symm, by omega, hb4⟩
          case measure => simp [intOf]; omega
      · have HA := hid (show acc = missingOf xs by rw [HO.out, HNS.out, hacc.out, take_all HM.out (show m ≤ k by omega)])
        go_wp2
        go_ret
        exact ⟨_, rfl, by rw [← HA.out]; exact hown.less hs1, c1⟩


end Go.Proofs.YtnaahincolooeaaGreatDoor
