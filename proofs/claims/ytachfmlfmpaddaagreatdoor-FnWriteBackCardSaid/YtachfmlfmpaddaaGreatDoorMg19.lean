/- Walks and plain facts, joined: UpP, EnO, EnD. -/
import Derived.Test.YtachfmlfmpaddaaGreatDoorMg10
import Derived.Test.YtachfmlfmpaddaaGreatDoorMg13
import Derived.Test.YtachfmlfmpaddaaGreatDoorMg16
import Derived.Test.YtachfmlfmpaddaaGreatDoorMg18
import Derived.Deep.RegionLaw
set_option linter.unusedVariables false
set_option linter.unusedSimpArgs false

/- What the program puts on the way back, folder by folder, in plain Lean. No program in sight. -/
namespace Go.Proofs.YtachfmlfmpaddaaGreatDoor
open Go.RowKit

/-- Folders put anew, the last one first. -/
noncomputable def backTo (s : List Pc) : List (List Ent × ByteArray) → Int → Option (List Pc × Int)
  | [], pr => some (s, pr)
  | (es, nm) :: r, pr => match backTo s r pr with
    | none => none
    | some (s1, ch) => if (putEnt es ⟨nm, ch⟩).2 = true then (if (putS s1 (strL (folderText (putEnt es ⟨nm, ch⟩).1))).2.2 = true then some ((putS s1 (strL (folderText (putEnt es ⟨nm, ch⟩).1))).1, (putS s1 (strL (folderText (putEnt es ⟨nm, ch⟩).1))).2.1) else none) else none
theorem back_eq {s : List Pc} (hs : storeOk s = true) : ∀ (FZ : List (List Ent × ByteArray)) (pr : Int), backTo s FZ pr = match upT FZ pr with
    | none => none
    | some (T, p) => match putAll s T with | none => none | some s' => some (s', p)
  | [], pr => rfl
  | (es, nm) :: r, pr => by
    have ih := back_eq hs r pr
    unfold backTo upT
    rw [ih]
    cases hu : upT r pr with
    | none => rfl
    | some TP =>
      obtain ⟨T, ch⟩ := TP
      simp only []
      cases hpa : putAll s T with
      | none =>
        simp only []
        by_cases hpe : (putEnt es ⟨nm, ch⟩).2 = true
        · rw [if_pos hpe]
          simp only []
          rw [putAll_append, hpa]; rfl
        · rw [if_neg hpe]
      | some s1 =>
        simp only []
        have hs1 := (putAll_le hs hpa).1
        by_cases hpe : (putEnt es ⟨nm, ch⟩).2 = true
        · rw [if_pos hpe, if_pos hpe]
          simp only []
          rw [putAll_append, hpa]
          simp only [Option.bind_some]
          rw [putAll_one]
          by_cases hput : (putS s1 (strL (folderText (putEnt es ⟨nm, ch⟩).1))).2.2 = true
          · rw [if_pos hput, if_pos hput]
            have := (put_get hs1 hput).2.2.1
            rw [bs_strL] at this
            rw [this]
          · rw [if_neg hput, if_neg hput]
        · rw [if_neg hpe, if_neg hpe]
theorem back_none {s : List Pc} {pr : Int} : ∀ (FZ : List (List Ent × ByteArray)) (k : Nat), backTo s (FZ.drop k) pr = none → backTo s FZ pr = none
  | [], k, h => by simpa using h
  | x :: r, 0, h => h
  | (es, nm) :: r, k + 1, h => by
    have := back_none r k (by simpa using h)
    unfold backTo
    rw [this]

/-- One step of putting folders anew. -/
theorem back_bad {s s1 : List Pc} {pr ch : Int} {FZ : List (List Ent × ByteArray)} {k : Nat} {es : List Ent} {nm : ByteArray} (hx : FZ[k]? = some (es, nm)) (hb : backTo s (FZ.drop (k + 1)) pr = some (s1, ch)) (h : (putEnt es ⟨nm, ch⟩).2 = false ∨ (putS s1 (strL (folderText (putEnt es ⟨nm, ch⟩).1))).2.2 = false) : backTo s FZ pr = none := by
  refine back_none FZ k ?_
  obtain ⟨hk, e⟩ := List.getElem?_eq_some_iff.1 hx
  rw [List.drop_eq_getElem_cons hk, e]
  unfold backTo
  rw [hb]
  simp only []
  rcases h with h | h
  · rw [if_neg (by rw [h]; simp)]
  · split
    · rw [if_neg (by rw [h]; simp)]
    · rfl
theorem back_step {s s1 : List Pc} {pr ch : Int} {FZ : List (List Ent × ByteArray)} {k : Nat} {es : List Ent} {nm : ByteArray} (hx : FZ[k]? = some (es, nm)) (hb : backTo s (FZ.drop (k + 1)) pr = some (s1, ch)) (h1 : (putEnt es ⟨nm, ch⟩).2 = true) (h2 : (putS s1 (strL (folderText (putEnt es ⟨nm, ch⟩).1))).2.2 = true) :
    backTo s (FZ.drop k) pr = some ((putS s1 (strL (folderText (putEnt es ⟨nm, ch⟩).1))).1, (putS s1 (strL (folderText (putEnt es ⟨nm, ch⟩).1))).2.1) := by
  obtain ⟨hk, e⟩ := List.getElem?_eq_some_iff.1 hx
  rw [List.drop_eq_getElem_cons hk, e]
  unfold backTo
  rw [hb]
  simp only []
  rw [if_pos h1, if_pos h2]

/-- Where a drop stops going up, and what it puts from there on. -/
theorem drop_up : ∀ (FZ : List (List Ent × ByteArray)) (k : Nat) (es : List Ent) (nm : ByteArray), Named FZ → FZ[k]? = some (es, nm) → dropT (FZ.drop (k + 1)) = none → dropE es nm ≠ [] →
    ∃ T p, upT (FZ.take k) (printOf (folderText (dropE es nm))) = some (T, p) ∧ dropT FZ = some (strL (folderText (dropE es nm)) :: T, p)
  | [], k, es, nm, _, hx, _, _ => by simp at hx
  | x :: r, 0, es, nm, hN, hx, hd, hne => by
    simp only [List.getElem?_cons_zero, Option.some.injEq] at hx
    subst hx
    simp only [List.drop_succ_cons, List.drop_zero] at hd
    refine ⟨[], _, rfl, ?_⟩
    unfold dropT
    rw [hd]
    simp only []
    rw [if_neg hne]
  | (es0, nm0) :: r, k + 1, es, nm, hN, hx, hd, hne => by
    have hr : Named r := fun x hx => hN x (by simp [hx])
    obtain ⟨T, p, hu, hdr⟩ := drop_up r k es nm hr (by simpa using hx) (by simpa using hd) hne
    have ho := hN (es0, nm0) (by simp)
    obtain ⟨c, hc⟩ := ho.2
    have hp := dropT_pv hr hdr
    have hput := putE_there ho.1 hc hp
    have hon := putEnt_on ho.1 hput
    refine ⟨T ++ [strL (folderText (putEnt es0 ⟨nm0, p⟩).1)], printOf (folderText (putEnt es0 ⟨nm0, p⟩).1), ?_, ?_⟩
    · rw [List.take_succ_cons]
      unfold upT
      rw [hu]
      simp only []
      rw [if_pos (by rw [hon])]
    · unfold dropT
      rw [hdr]
      simp
theorem dropT_last {FZ : List (List Ent × ByteArray)} : dropT (FZ.drop FZ.length) = none := by rw [List.drop_length]; rfl
theorem dropT_up {FZ : List (List Ent × ByteArray)} {k : Nat} {es : List Ent} {nm : ByteArray} (hx : FZ[k]? = some (es, nm)) (hd : dropT (FZ.drop (k + 1)) = none) (he : dropE es nm = []) : dropT (FZ.drop k) = none := by
  obtain ⟨hk, e⟩ := List.getElem?_eq_some_iff.1 hx
  rw [List.drop_eq_getElem_cons hk, e]
  unfold dropT
  rw [hd]
  simp only []
  rw [if_pos he]
/-- A drop, as the program does it: the folder where it stops is put first. -/
theorem dropTs_at {FZ : List (List Ent × ByteArray)} {k : Nat} {es : List Ent} {nm : ByteArray} (hN : Named FZ) (hx : FZ[k]? = some (es, nm)) (hd : dropT (FZ.drop (k + 1)) = none) (he : dropE es nm ≠ [] ∨ k = 0) :
    ∃ T p, upT (FZ.take k) (printOf (folderText (dropE es nm))) = some (T, p) ∧ dropTs FZ = (strL (folderText (dropE es nm)) :: T, p) := by
  by_cases hne : dropE es nm = []
  · obtain rfl : k = 0 := he.resolve_left (fun h => h hne)
    refine ⟨[], _, rfl, ?_⟩
    have h0 := dropT_up hx hd hne
    rw [List.drop_zero] at h0
    unfold dropTs
    rw [h0, hne]
    rfl
  · obtain ⟨T, p, h1, h2⟩ := drop_up FZ k es nm hN hx hd hne
    exact ⟨T, p, h1, by unfold dropTs; rw [h2]; rfl⟩
/-- A drop's two steps: the folder where it stops, and the folders above it. -/
theorem dropOff_at {s : List Pc} {root : Int} {ws : List ByteArray} {k : Nat} {es : List Ent} {nm : ByteArray} (hs : storeOk s = true) (hN : Named (wayD s root ws)) (hx : (wayD s root ws)[k]? = some (es, nm)) (hd : dropT ((wayD s root ws).drop (k + 1)) = none) (he : dropE es nm ≠ [] ∨ k = 0) :
    dropOff s root ws = if (putS s (strL (folderText (dropE es nm)))).2.2 = true then backTo (putS s (strL (folderText (dropE es nm)))).1 ((wayD s root ws).take k) (printOf (folderText (dropE es nm))) else none := by
  obtain ⟨T, p, hu, ht⟩ := dropTs_at hN hx hd he
  unfold dropOff
  rw [ht]
  simp only []
  by_cases hp : (putS s (strL (folderText (dropE es nm)))).2.2 = true
  · rw [if_pos hp, back_eq (put_get hs hp).1, hu]
    simp only [putAll]
    rw [if_pos hp]
    cases putAll (putS s (strL (folderText (dropE es nm)))).1 T <;> rfl
  · rw [if_neg hp]
    simp only [putAll]
    rw [if_neg hp]
/-- A write's two steps: the file, and the folders above it. -/
theorem writeTo_at {s : List Pc} {root : Int} {ws : List ByteArray} {content : List UInt8} (hs : storeOk s = true) {F : List (List Ent)} {z : Option Int} (hw : wayW s (some root) ws = some (F, z)) (hl : leafOk s z = true) :
    writeTo s root ws content = if (putS s (strL (fileText content))).2.2 = true then backTo (putS s (strL (fileText content))).1 (F.zip ws) (printOf (fileText content)) else none := by
  unfold writeTo
  rw [hw]
  simp only []
  rw [if_neg (by rw [hl]; simp)]
  by_cases hp : (putS s (strL (fileText content))).2.2 = true
  · rw [if_pos hp, back_eq (put_get hs hp).1]
    cases hu : upT (F.zip ws) (printOf (fileText content)) with
    | none => rfl
    | some TP =>
      obtain ⟨T, p⟩ := TP
      simp only [putAll]
      rw [if_pos hp]
      cases putAll (putS s (strL (fileText content))).1 T <;> rfl
  · rw [if_neg hp]
    cases hu : upT (F.zip ws) (printOf (fileText content)) with
    | none => rfl
    | some TP =>
      obtain ⟨T, p⟩ := TP
      simp only [putAll]
      rw [if_neg hp]

end Go.Proofs.YtachfmlfmpaddaaGreatDoor

/- Rows of entries of a call's own: insertion, copies. -/
namespace Go.Proofs.YtachfmlfmpaddaaGreatDoor
open Go.RowKit

theorem flatE_len (xs : List Ent) : (xs.flatMap encE).length = xs.length * 2 := by
  induction xs with
  | nil => rfl
  | cons x r ih => rw [List.flatMap_cons, List.length_append, ih]; simp; omega

set_option maxHeartbeats 2000000 in
set_option maxRecDepth 100000 in
theorem insE_c (v : Value) (xs : List Ent) (B i vb : Nat) (r : Int) (t : ByteArray) (w : World) (h : OwnE w B v xs) (hi : i ≤ xs.length) (hB : B ≤ w.heap.size) (hvb : w.heap[vb]? = some (.cells #[.string t, .int .i64 r] 81 (0, 0))) (hne : v.ownBlock ≠ some vb) (hl : xs.length ≤ 1000000) :
    Calls Tryz.prog 175 #[v, .int .i64 i, .slice (some ⟨vb, 0, none⟩) 1 1] w fun e w' => ∃ v', e = .returned v' ∧ OwnE w' B v' (xs.take i ++ ⟨t, r⟩ :: xs.drop i) ∧ w.grownBy w' v.ownBlock := by
  obtain ⟨n, hn⟩ : ∃ n, xs.length = n := ⟨_, rfl⟩
  obtain ⟨i0, hi0, hz0, hz1, hz2⟩ := info_parts info_ent
  rw [hn] at hi hl
  by_cases hin : i = n
  · subst hin
    have hap : xs.take i ++ ⟨t, r⟩ :: xs.drop i = xs ++ [⟨t, r⟩] := by rw [List.take_of_length_le (by omega), List.drop_of_length_le (by omega)]
    have HAP := hid hap
    clear hap
    have h0 := h
    rcases h.2 with ⟨rfl, h2⟩ | ⟨g, cap, cur, hv, hbg, hgh, hnc, hcm, hcs, hct⟩
    · obtain rfl : i = 0 := by omega
      go_enter Tryz.func175, Tryz.ntmps175
      go_wp2_with (at_builtin; refine wpList_cat (enc := encE) (w0 := w) rfl _ _ 67 rfl B B 81 i0 _ 2 24 Tryz.underlying67 hi0 hz0 hz1 hz2 rfl (by decide) _ _ xs [⟨t, r⟩] h0 _ (lit_rdE (e := ⟨t, r⟩) hvb) (Below.refl _ _) hB (Nat.le_refl _) rfl rfl encE_one (by simp; omega) (by decide) ?_; intro v' w' hown' hb' hB' hg')
      go_ret
      exact ⟨_, rfl, by rw [HAP.out]; exact hown', hg'.1⟩
    · rw [hn] at hv
      subst hv
      have HN := hid hn
      clear hn
      go_enter Tryz.func175, Tryz.ntmps175
      go_wp2_with (at_builtin; refine wpList_cat (enc := encE) (w0 := w) rfl _ _ 67 rfl B B 81 i0 _ 2 24 Tryz.underlying67 hi0 hz0 hz1 hz2 rfl (by decide) _ _ xs [⟨t, r⟩] h0 _ (lit_rdE (e := ⟨t, r⟩) hvb) (Below.refl _ _) hB (Nat.le_refl _) rfl rfl encE_one (by have := HN.out; simp; omega) (by decide) ?_; intro v' w' hown' hb' hB' hg')
      all_goals
        go_ret
        exact ⟨_, rfl, by rw [HAP.out]; exact hown', hg'.1⟩
  · have hlt : i < n := by omega
    rcases h.2 with ⟨rfl, h2⟩ | ⟨g, cap, cur, hv, hbg, hgh, hnc, hcm, hcs, hct⟩
    · omega
    rw [hn] at hv hnc hct
    subst hv
    have hgv : g ≠ vb := fun e => hne (by rw [e]; rfl)
    have hgw : g < w.heap.size := (Array.getElem?_eq_some_iff.1 hgh).1
    have hvw : vb < w.heap.size := (Array.getElem?_eq_some_iff.1 hvb).1
    obtain ⟨X, hX⟩ : ∃ X, X = xs.flatMap encE := ⟨_, rfl⟩
    have hXl : X.length = n * 2 := by rw [hX, flatE_len, hn]
    rw [← hX] at hct
    have hcl : cur.toList.length = cap * 2 := by simpa using hcs
    have hXa : ∀ (j : Nat) (v : Value), X[j]? = some v → cur[j]? = some v := by
      intro j v hj
      have hj' := (List.getElem?_eq_some_iff.1 hj).1
      rw [← hct, List.getElem?_take_of_lt (by omega)] at hj
      simpa using hj
    have h1X : ∀ v ∈ X, v.oneCell' = true := by
      intro v hv
      rw [hX] at hv
      obtain ⟨y, hy, hu⟩ := List.mem_flatMap.1 hv
      exact encE_one y hy v hu
    have hsz : (Tryz.prog.info? 81).map (·.size) = some 2 := by rw [hi0]; simp [hz1]
    have hzz : ∀ w, (Go.sizeOf 81).run Tryz.prog w = .ok 2 w := fun w => by simp [Go.sizeOf, typeInfo, hi0, hz1]
    obtain ⟨D, hD⟩ : ∃ D, D = X.drop (i * 2) := ⟨_, rfl⟩
    have hDl : D.length = (n - i) * 2 := by rw [hD, List.length_drop, hXl]; omega
    have hDa : ∀ (j : Nat) (v : Value), D[j]? = some v → cur[i * 2 + j]? = some v := by
      intro j v hj
      rw [hD, List.getElem?_drop] at hj
      exact hXa _ _ hj
    have h1D : ∀ v ∈ D, v.oneCell' = true := fun v hv => h1X v (List.mem_of_mem_drop (by rw [← hD]; exact hv))
    have h1E : ∀ v ∈ ([.string t, .int .i64 r] : List Value), v.oneCell' = true := by simp [Value.oneCell']
    have hout : xs.flatMap encE = X → (xs.take i ++ ⟨t, r⟩ :: xs.drop i).flatMap encE = X.take (i * 2) ++ ([.string t, .int .i64 r] ++ D) := by
      intro _
      rw [List.flatMap_append, List.flatMap_cons, hD, hX, flatE_take, flatE_drop]
    have HOUT := hid (hout hX.symm)
    have hol : (xs.take i ++ ⟨t, r⟩ :: xs.drop i).length = n + 1 := by simp; omega
    have HOL := hid hol
    clear hout hol
    by_cases hroom : n + 1 ≤ cap
    · obtain ⟨R1, hR1⟩ : ∃ R1 : Array Value, R1 = (cur.toList.take (i * 2 + 2) ++ D ++ cur.toList.drop (i * 2 + 2 + D.length)).toArray := ⟨_, rfl⟩
      obtain ⟨R2, hR2⟩ : ∃ R2 : Array Value, R2 = (R1.toList.take (i * 2) ++ ([.string t, .int .i64 r] : List Value) ++ R1.toList.drop (i * 2 + 2)).toArray := ⟨_, rfl⟩
      have hfin : R2.toList.take (n * 2 + 2) = X.take (i * 2) ++ ([.string t, .int .i64 r] ++ D) := by
        rw [hR2, hR1, hD]
        exact shift_list cur.toList X (i * 2) (n * 2) hXl (by omega) hct 2 ([.string t, .int .i64 r] : List Value) rfl (by omega) (by omega)
      have hs1 : R1.size = cap * 2 := by rw [hR1]; simp [hDl, hcs]; omega
      have hs2 : R2.size = cap * 2 := by rw [hR2]; simp [hs1]; omega
      have hov : ∀ lb cb, (callFunc 188 #[.slice (some ⟨vb, 0, none⟩) 1 1, .slice (some ⟨g, (i + 1) * 2, none⟩) lb cb]).run Tryz.prog w = .ok (.value (.bool false)) w := fun lb cb => by
        rw [run_callFunc_extern Tryz.func188 (by kernel_rfl) (by kernel_rfl) (by kernel_rfl) (e := Extern.SlicesOverlaps.overlaps #[67, 67] #[4]) (by kernel_rfl),
          Lib.run_overlaps_apart w 67 4 81 Tryz.underlying67 2 hzz ⟨vb, 0, none⟩ ⟨g, (i + 1) * 2, none⟩ 1 1 lb cb (Ne.symm hgv) 81 81 2 (cap * 2) (by simp [World.shape?, hvb]) (by simp [World.shape?, hgh, hcs]) (by omega) (frozen_of_row _ _ _ _ _ hvb) (frozen_of_row _ _ _ _ _ hvb)]
        rfl
      have hcp1 : ∀ ty dc sc, (Builtin.copy_ #[67, 67] ty #[.slice (some ⟨g, (i + 1) * 2, none⟩) (n - i) dc, .slice (some ⟨g, i * 2, none⟩) (n + 1 - i) sc]).run Tryz.prog w.drew = .ok (goInt ((n - i : Nat) : Int)) (w.drew.setRow g R1) := fun ty dc sc => by
        have := run_copy_rowK (P := Tryz.prog) w.drew 67 67 ty 81 g ((i + 1) * 2) (n - i) dc ⟨g, i * 2, none⟩ (n + 1 - i) sc cur 81 D 2 (n - i) Tryz.underlying67 hsz hgh (by simp only [Nat.min_def]; split <;> omega) hDl
          (fun j v hj => by rw [Addr.add_lit]; simp only [World.cell?, World.drew, hgh]; exact hDa j v hj) (by omega) h1D
        rw [show (i + 1) * 2 = i * 2 + 2 by omega] at this ⊢
        rw [← hR1] at this
        exact this
      have hcp2 : ∀ (W : World), W.heap[g]? = some (.cells R1 81 (0, 0)) → W.heap[vb]? = some (.cells #[.string t, .int .i64 r] 81 (0, 0)) → ∀ ty dc, (Builtin.copy_ #[67, 67] ty #[.slice (some ⟨g, i * 2, none⟩) (n + 1 - i) dc, .slice (some ⟨vb, 0, none⟩) 1 1]).run Tryz.prog W = .ok (goInt ((1 : Nat) : Int)) (W.setRow g R2) := fun W h1 h2 ty dc => by
        have := run_copy_rowK (P := Tryz.prog) W 67 67 ty 81 g (i * 2) (n + 1 - i) dc ⟨vb, 0, none⟩ 1 1 R1 81 [.string t, .int .i64 r] 2 1 Tryz.underlying67 hsz h1 (by simp only [Nat.min_def]; split <;> omega) rfl
          (fun j v hj => by rw [Addr.add_lit, Nat.zero_add]; simp only [World.cell?, h2]; simpa using hj) (by simp; omega) h1E
        rw [show i * 2 + ([.string t, .int .i64 r] : List Value).length = i * 2 + 2 from rfl, ← hR2] at this
        exact this
      have hci : ¬ (cap = i) := by omega
      have hci2 : ¬ (cap = i + 1) := by omega
      have hb1 : (i : Int) ≤ (n : Int) + 1 := by omega
      have hne2 : ¬ ((i : Int) = (n : Int)) := by omega
      have hw1 : IntKind.i64.wrap ((i : Int) + 1) = (i : Int) + 1 := by rw [IntKind.wrap_i64]; omega
      have hb2 : (0 : Int) ≤ (i : Int) + 1 := by omega
      have htn : ((i : Int) + 1).toNat = i + 1 := by omega
      have hb3 : (i : Int) + 1 ≤ (n : Int) + 1 := by omega
      have HF := hid (And.intro hfin (And.intro hs1 hs2))
      have HC := hid (And.intro hn (And.intro hnc hcm))
      clear hfin hs1 hs2 hn hcm hDa hXa hct hX hD hR1 hR2 h1X h1D h1E hcl hXl hDl hcs hsz
      go_enter Tryz.func175, Tryz.ntmps175
      go_wp2_with (simp only [hov])
      have hgd : w.drew.heap[g]? = some (.cells cur 81 (0, 0)) := hgh
      have hW1 : (w.drew.setRow g R1).heap[g]? = some (.cells R1 81 (0, 0)) := setRow_heap _ g cur R1 _ _ hgd
      have hW1v : (w.drew.setRow g R1).heap[vb]? = some (.cells #[.string t, .int .i64 r] 81 (0, 0)) := (setRow_other _ _ _ _ (Ne.symm hgv)).trans hvb
      go_region_law (refine step_copy_runI rfl _ _ 67 67 rfl _ _ (by simp [Act.eval, Act.put]) (by simp [Act.eval, Act.put]) (hcp1 _ _ _) ?_)
      have hcp3 := hcp2 _ hW1 hW1v
      clear hcp1 hcp2 hW1v
      go_wp2_with (simp only [hcp3])
      go_ret
      refine ⟨_, rfl, ⟨by rw [HOL.out, HOUT.out, ← HF.out.1]; simp [HF.out.2.2]; omega, .inr ⟨g, cap, R2, by rw [HOL.out]; rfl, hbg, setRow_heap _ g R1 R2 _ _ hW1, by rw [HOL.out]; omega, HC.out.2.2, HF.out.2.2, by rw [HOL.out, HOUT.out, ← HF.out.1, show (n + 1) * 2 = n * 2 + 2 by omega]⟩⟩, ?_⟩
      exact (show w.grownBy w.drew (some g) from ⟨rfl, rfl, rfl, Nat.le_refl _, fun _ _ _ => rfl⟩).trans ((grownBy_setRow _ _ _).trans (grownBy_setRow _ _ _))
    · have hcn : cap = n := by omega
      subst hcn
      obtain ⟨G, hG⟩ : ∃ G, G = grownCap w (cap + 1) cap 81 := ⟨_, rfl⟩
      obtain ⟨ROW, hROW⟩ : ∃ ROW : Array Value, ROW = (X.take (i * 2)).toArray ++ Builtin.zeroCells (Value.agg #[.string ByteArray.empty, .int .i64 0]).cells (cap + 1 - i) ++ Builtin.zeroCells (Value.agg #[.string ByteArray.empty, .int .i64 0]).cells (G - (cap + 1)) := ⟨_, rfl⟩
      have hGn : cap + 1 ≤ G := by rw [hG]; exact grownCap_ge w _ _ _
      have hGm : G ≤ maxLen := by rw [hG]; exact grownCap_le_maxLen w (cap + 1) cap 81 (by unfold maxLen; omega)
      have hold : (Builtin.firstCells i0.size i (.slice (some ⟨g, 0, none⟩) i cap)).run Tryz.prog w.drew = .ok (X.take (i * 2)).toArray w.drew := by
        rw [hz1]
        exact run_firstCells_some w.drew 2 i ⟨g, 0, none⟩ i cap (X.take (i * 2)) (by rw [List.length_take, hXl]; omega) (fun j v hj => by
          rw [Addr.add_lit, Nat.zero_add]
          rw [List.getElem?_take] at hj
          split at hj
          · simp only [World.cell?, World.drew, hgh]; exact hXa j v hj
          · cases hj)
      have hrz : ∀ ty, (Builtin.append_ #[67, 3] ty #[.slice (some ⟨g, 0, none⟩) i cap, .int .i64 ((cap : Int) + 1 - (i : Int))]).run Tryz.prog w = .ok (.slice (some ⟨w.heap.size, 0, none⟩) (cap + 1) G) (w.drew.alloc (.cells ROW 81)) := fun ty => by
        have h := Lib.run_append_grow_zeros (P := Tryz.prog) w 67 3 ty 81 i0 _ .i64 .i64 Tryz.underlying67 Tryz.underlying3 hi0 hz0 (some ⟨g, 0, none⟩) i cap (X.take (i * 2)) hold (cap + 1 - i) (by omega) (by rw [hz1]; decide) (by omega) (by omega) (by rw [hz2]; omega) (by rw [hz2, show i + (cap + 1 - i) = cap + 1 by omega]; exact growslice_fits (by omega) (by omega))
        rw [show i + (cap + 1 - i) = cap + 1 by omega, ← hG, ← hROW] at h
        rw [show (cap : Int) + 1 - (i : Int) = ((cap + 1 - i : Nat) : Int) by omega]
        exact h
      have hRs : ROW.size = G * 2 := by
        rw [hROW]
        simp [Builtin.zeroCells, Value.cells, hXl]
        omega
      have hRt : ROW.toList.take (i * 2) = X.take (i * 2) := by
        rw [hROW]
        simp only [Array.toList_append]
        rw [List.append_assoc, List.take_append_of_le_length (by simp [hXl]; omega), List.take_of_length_le (by simp; omega)]
      obtain ⟨R1, hR1⟩ : ∃ R1 : Array Value, R1 = (ROW.toList.take (i * 2) ++ ([.string t, .int .i64 r] : List Value) ++ ROW.toList.drop (i * 2 + 2)).toArray := ⟨_, rfl⟩
      obtain ⟨R2, hR2⟩ : ∃ R2 : Array Value, R2 = (R1.toList.take (i * 2 + 2) ++ D ++ R1.toList.drop (i * 2 + 2 + D.length)).toArray := ⟨_, rfl⟩
      have hs1 : R1.size = G * 2 := by rw [hR1]; simp [hRs]; omega
      have hs2 : R2.size = G * 2 := by rw [hR2]; simp [hs1, hDl]; omega
      have hfin : R2.toList.take (cap * 2 + 2) = X.take (i * 2) ++ ([.string t, .int .i64 r] ++ D) := by
        have e1 : R1.toList.take (i * 2 + 2) = X.take (i * 2) ++ [.string t, .int .i64 r] := by
          rw [hR1, hRt]
          simp only [List.append_assoc]
          rw [← List.append_assoc, List.take_append_of_le_length (by simp [hXl]; omega), List.take_of_length_le (by simp; omega)]
        rw [hR2, e1]
        simp only
        rw [List.take_append_of_le_length (by simp [hXl, hDl]; omega), List.take_of_length_le (by simp [hXl, hDl]; omega), List.append_assoc]
      obtain ⟨W1, hW1⟩ : ∃ W1, W1 = w.drew.alloc (.cells ROW 81) := ⟨_, rfl⟩
      have k1 : W1.heap[w.heap.size]? = some (.cells ROW 81 (0, 0)) := by rw [hW1]; exact heap_alloc_new w.drew _
      have kold : ∀ q, q < w.heap.size → W1.heap[q]? = w.heap[q]? := fun q hq => by rw [hW1]; exact ((Below.refl w.heap.size w).drew.alloc (Nat.le_refl _) _).block q hq
      have k1g : w.grownBy W1 (some g) := by rw [hW1]; exact (show w.grownBy w.drew (some g) from ⟨rfl, rfl, rfl, Nat.le_refl _, fun _ _ _ => rfl⟩).trans (World.grownBy_alloc _ _ _)
      have hcpA : ∀ ty dc, (Builtin.copy_ #[67, 67] ty #[.slice (some ⟨w.heap.size, i * 2, none⟩) (cap + 1 - i) dc, .slice (some ⟨vb, 0, none⟩) 1 1]).run Tryz.prog W1 = .ok (goInt ((1 : Nat) : Int)) (W1.setRow w.heap.size R1) := fun ty dc => by
        have := run_copy_rowK (P := Tryz.prog) W1 67 67 ty 81 w.heap.size (i * 2) (cap + 1 - i) dc ⟨vb, 0, none⟩ 1 1 ROW 81 [.string t, .int .i64 r] 2 1 Tryz.underlying67 hsz k1 (by simp only [Nat.min_def]; split <;> omega) rfl
          (fun j v hj => by rw [Addr.add_lit, Nat.zero_add]; simp only [World.cell?, kold vb hvw, hvb]; simpa using hj) (by simp; omega) h1E
        rw [show i * 2 + ([.string t, .int .i64 r] : List Value).length = i * 2 + 2 from rfl, ← hR1] at this
        exact this
      have hgn : w.heap.size ≠ g := by omega
      obtain ⟨W2, hW2⟩ : ∃ W2, W2 = W1.setRow w.heap.size R1 := ⟨_, rfl⟩
      have k2 : W2.heap[w.heap.size]? = some (.cells R1 81 (0, 0)) := by rw [hW2]; exact setRow_heap _ _ ROW R1 _ _ k1
      have k2g : W2.heap[g]? = some (.cells cur 81 (0, 0)) := by rw [hW2]; exact (setRow_other _ _ _ _ (Ne.symm hgn)).trans ((kold g hgw).trans hgh)
      have k2w : w.grownBy W2 (some g) := by rw [hW2]; exact ⟨k1g.os, k1g.tape, k1g.output, by have := k1g.size; simpa [World.setRow] using this, fun q hq hqn => (setRow_other _ _ _ _ (by omega)).trans (k1g.block q hq hqn)⟩
      have hcpB : ∀ ty dc sc, (Builtin.copy_ #[67, 67] ty #[.slice (some ⟨w.heap.size, (i + 1) * 2, none⟩) (cap - i) dc, .slice (some ⟨g, i * 2, none⟩) (cap - i) sc]).run Tryz.prog W2.drew = .ok (goInt ((cap - i : Nat) : Int)) (W2.drew.setRow w.heap.size R2) := fun ty dc sc => by
        have := run_copy_rowK (P := Tryz.prog) W2.drew 67 67 ty 81 w.heap.size ((i + 1) * 2) (cap - i) dc ⟨g, i * 2, none⟩ (cap - i) sc R1 81 D 2 (cap - i) Tryz.underlying67 hsz k2 (by simp only [Nat.min_def]; split <;> omega) hDl
          (fun j v hj => by rw [Addr.add_lit]; have k2g' : W2.drew.heap[g]? = some (.cells cur 81 (0, 0)) := k2g
                            simp only [World.cell?, k2g']; exact hDa j v hj) (by omega) h1D
        rw [show (i + 1) * 2 = i * 2 + 2 by omega] at this ⊢
        rw [← hR2] at this
        exact this
      rw [← hW1] at hrz
      rw [← hW2] at hcpA
      have k3 : (W2.drew.setRow w.heap.size R2).heap[w.heap.size]? = some (.cells R2 81 (0, 0)) := setRow_heap _ _ R1 R2 _ _ k2
      have k3w : w.grownBy (W2.drew.setRow w.heap.size R2) (some g) := ⟨k2w.os, k2w.tape, k2w.output, by have h5 := k2w.size; simp only [World.setRow, Array.size_modify]; exact h5, fun q hq hqn => (setRow_other _ _ _ _ (by omega)).trans (k2w.block q hq hqn)⟩
      have hGi : ¬ (G = i) := by omega
      have hGi1 : ¬ (G = i + 1) := by omega
      have hci : ¬ (cap = i) := by omega
      have hne2 : ¬ ((i : Int) = (cap : Int)) := by omega
      have hw1 : IntKind.i64.wrap ((i : Int) + 1) = (i : Int) + 1 := by rw [IntKind.wrap_i64]; omega
      have hb2 : (0 : Int) ≤ (i : Int) + 1 := by omega
      have htn : ((i : Int) + 1).toNat = i + 1 := by omega
      have hb3 : (i : Int) + 1 ≤ (cap : Int) + 1 := by omega
      have hb1 : (i : Int) ≤ (cap : Int) + 1 := by omega
      have hb4 : (i : Int) ≤ (cap : Int) := by omega
      have HF := hid (And.intro hfin (And.intro hs2 (And.intro hGn hGm)))
      have HK := hid (And.intro k3 k3w)
      clear hfin hs1 hs2 hn hcm hDa hXa hct hX hD hR1 hR2 h1X h1D h1E hcl hXl hDl hcs hsz hG hROW hRs hRt hGm hW1 hW2 k1 kold k1g k2 k2g k2w k3 k3w hold
      go_enter Tryz.func175, Tryz.ntmps175
      go_wp2_with (first | (at_builtin; refine Lib.wpList_append_run _ rfl _ _ _ _ rfl _ _ rfl rfl _ _ (hrz _) ?_) | (simp only [hcpA]))
      go_region_law (refine step_copy_runI rfl _ _ 67 67 rfl _ _ (by simp [Act.eval, Act.put]) (by simp [Act.eval, Act.put]) (hcpB _ _ _) ?_)
      go_wp2
      go_ret
      refine ⟨_, rfl, ⟨by rw [HOL.out, HOUT.out, ← HF.out.1]; simp [HF.out.2.1]; omega, .inr ⟨w.heap.size, G, R2, by rw [HOL.out]; rfl, hB, HK.out.1, by rw [HOL.out]; exact HF.out.2.2.1, HF.out.2.2.2, HF.out.2.1, by rw [HOL.out, HOUT.out, ← HF.out.1, show (cap + 1) * 2 = cap * 2 + 2 by omega]⟩⟩, HK.out.2⟩

set_option maxHeartbeats 400000 in
theorem cloneE_c (v : Value) (xs : List Ent) (w : World) (h : Ents w w.heap.size v xs) (hl : xs.length ≤ 1000000) :
    Calls Tryz.prog 148 #[v] w fun e w' => ∃ v', e = .returned v' ∧ OwnE w' w.heap.size v' xs ∧ Below w.heap.size w w' := by
  obtain ⟨n, hn⟩ : ∃ n, xs.length = n := ⟨_, rfl⟩
  obtain ⟨a, c, rfl, _, _, h3⟩ := h.ents hn
  have h0 := h
  obtain ⟨i0, hi0, hz0, hz1, hz2⟩ := info_parts info_ent
  have qn : ∀ (w : World) (a : Option Addr) (n c n' c' : Nat), (binOp .eql 67 (.slice a n c) (.slice none n' c')).run Tryz.prog w = .ok (.bool a.isNone) w := fun w a n c n' c' => Lib.run_eql_slice_nil w _ _ a n c n' c' Tryz.underlying67
  cases a with
  | none =>
    have hn0 : n = 0 := by
      rcases Nat.eq_zero_or_pos n with h | h
      · exact h
      · obtain ⟨b, o, r, t, hb, _⟩ := h3 0 h; cases hb
    have hx : xs = [] := List.eq_nil_of_length_eq_zero (by omega)
    have HX := hid hx
    clear hx hn h3 h0 hl
    go_enter Tryz.func148, Tryz.ntmps148
    go_wp2_with (simp only [qn])
    go_ret
    exact ⟨_, rfl, by rw [HX.out]; exact Own.nil_, Below.refl _ _⟩
  | some ad =>
    have HN := hid hn
    have HL := hid hl
    have hal : Below w.heap.size w (w.alloc (.cells #[] 81)) := (Below.refl _ _).alloc (Nat.le_refl _) _
    clear hn h3 hl
    go_enter Tryz.func148, Tryz.ntmps148
    go_wp2_with (first | simp only [qn] | (at_builtin; refine wpList_cat (enc := encE) (w0 := w) rfl _ _ 67 rfl w.heap.size w.heap.size 81 i0 _ 2 24 Tryz.underlying67 hi0 hz0 hz1 hz2 rfl (by decide) _ _ [] xs (Own.made w (Nat.le_refl _)) _ (h0.below hal (Nat.le_refl _)) hal (by simp) (Nat.le_refl _) rfl rfl encE_one (by have := HL.out; simp; omega) (by decide) ?_; intro v' w' hown' hb' hB' hg'))
    go_ret
    exact ⟨_, rfl, hown', hb'⟩

end Go.Proofs.YtachfmlfmpaddaaGreatDoor

/- Rows of entries: one entry is taken out. -/
namespace Go.Proofs.YtachfmlfmpaddaaGreatDoor
open Go.RowKit

theorem setCells_setRow {w : World} {g o : Nat} {cur : Array Value} {t : TypeId} {vs : List Value} (hg : w.heap[g]? = some (.cells cur t (0, 0))) (hl : o + vs.length ≤ cur.size) (h1 : ∀ v ∈ vs, v.oneCell' = true) :
    w.setCells g o vs = w.setRow g (cur.toList.take o ++ vs ++ cur.toList.drop (o + vs.length)).toArray := by
  have e1 := run_storeCells_at Tryz.prog g o t vs 0 cur w hg (by simpa using hl) h1
  have e2 := run_storeCells_cells (P := Tryz.prog) g o vs 0 w (fun j hj => by simp only [World.cell?, hg]; simp; omega) (fun j _ => frozen_of_row _ _ _ _ _ hg) h1
  rw [e1] at e2
  simp only [Nat.add_zero] at e2
  injection e2 with _ e3
  exact e3.symm
theorem zero_ent : (Builtin.zeroCells (Value.agg #[.string ByteArray.empty, .int .i64 0]).cells 1).toList = [.string ByteArray.empty, .int .i64 0] := by
  first
  | rfl
  | simp [Builtin.zeroCells, Value.cells, List.range_succ]
theorem run_clear_ent (w : World) (ty : TypeId) (g o c : Nat) (cur : Array Value) (t : TypeId) (hg : w.heap[g]? = some (.cells cur t (0, 0))) (hl : o + 2 ≤ cur.size) :
    (Builtin.clear_ #[67] ty #[.slice (some ⟨g, o, none⟩) 1 c]).run Tryz.prog w = .ok (.tuple #[]) (w.setRow g (cur.toList.take o ++ ([.string ByteArray.empty, .int .i64 0] : List Value) ++ cur.toList.drop (o + 2)).toArray) := by
  obtain ⟨i0, hi0, hz0, hz1, hz2⟩ := info_parts info_ent
  have hz : ∀ w, (zeroValue 81).run Tryz.prog w = .ok (.agg #[.string ByteArray.empty, .int .i64 0]) w := fun w => by simp [zeroValue, typeInfo, hi0, hz0]
  have hst := run_storeCells_at Tryz.prog g o t [.string ByteArray.empty, .int .i64 0] 0 cur w hg (by simpa using hl) (by simp [Value.oneCell'])
  simp only [Nat.add_zero, List.length_cons, List.length_nil, Nat.zero_add] at hst
  simp [Builtin.clear_, run_underlying Tryz.underlying67, hz, zero_ent, hst]

/-- The two steps of a deletion, in place. -/
theorem cut_list {α : Type} (cur X : List α) (i n c : Nat) (hX : X.length = n) (hcur : cur.take n = X) (hn : n ≤ cur.length) (z : List α) (hz : z.length = c) (hi : i + c ≤ n) :
    (let r1 := cur.take i ++ X.drop (i + c) ++ cur.drop (i + (X.drop (i + c)).length)
     (r1.take (n - c) ++ z ++ r1.drop (n - c + c))).take (n - c) = X.take i ++ X.drop (i + c) := by
  subst hX
  simp only
  have h1 : (cur.take i).length = i := by simp; omega
  have h2 : cur.take i = X.take i := by rw [← hcur, List.take_take, Nat.min_eq_left (by omega)]
  rw [List.append_assoc, List.take_append_of_le_length (by simp; omega), List.take_take, Nat.min_self, List.take_append_of_le_length (by simp; omega), List.take_of_length_le (by simp; omega), h2]

set_option maxHeartbeats 2000000 in
set_option maxRecDepth 100000 in
theorem delE_c (v : Value) (xs : List Ent) (B i : Nat) (w : World) (h : OwnE w B v xs) (hi : i < xs.length) (hl : xs.length ≤ 1000000) :
    Calls Tryz.prog 149 #[v, .int .i64 i, .int .i64 ((i : Int) + 1)] w fun e w' => ∃ v', e = .returned v' ∧ OwnE w' B v' (xs.take i ++ xs.drop (i + 1)) ∧ w.grownBy w' v.ownBlock := by
  obtain ⟨n, hn⟩ : ∃ n, xs.length = n := ⟨_, rfl⟩
  obtain ⟨i0, hi0, hz0, hz1, hz2⟩ := info_parts info_ent
  rw [hn] at hi hl
  rcases h.2 with ⟨rfl, h2⟩ | ⟨g, cap, cur, hv, hbg, hgh, hnc, hcm, hcs, hct⟩
  · omega
  rw [hn] at hv hnc hct
  subst hv
  have hgw : g < w.heap.size := (Array.getElem?_eq_some_iff.1 hgh).1
  obtain ⟨X, hX⟩ : ∃ X, X = xs.flatMap encE := ⟨_, rfl⟩
  have hXl : X.length = n * 2 := by rw [hX, flatE_len, hn]
  rw [← hX] at hct
  have hcl : cur.toList.length = cap * 2 := by simpa using hcs
  have hXa : ∀ (j : Nat) (v : Value), X[j]? = some v → cur[j]? = some v := by
    intro j v hj
    have hj' := (List.getElem?_eq_some_iff.1 hj).1
    rw [← hct, List.getElem?_take_of_lt (by omega)] at hj
    simpa using hj
  have h1X : ∀ v ∈ X, v.oneCell' = true := by
    intro v hv
    rw [hX] at hv
    obtain ⟨y, hy, hu⟩ := List.mem_flatMap.1 hv
    exact encE_one y hy v hu
  obtain ⟨D, hD⟩ : ∃ D, D = X.drop (i * 2 + 2) := ⟨_, rfl⟩
  have hDl : D.length = (n - (i + 1)) * 2 := by rw [hD, List.length_drop, hXl]; omega
  have hDa : ∀ (j : Nat) (v : Value), D[j]? = some v → cur[(i + 1) * 2 + j]? = some v := by
    intro j v hj
    rw [hD, List.getElem?_drop] at hj
    rw [show (i + 1) * 2 = i * 2 + 2 by omega]
    exact hXa _ _ hj
  have h1D : ∀ v ∈ D, v.oneCell' = true := fun v hv => h1X v (List.mem_of_mem_drop (by rw [← hD]; exact hv))
  obtain ⟨A, hA, hsrc⟩ : ∃ A : Addr, (if cap = i + 1 then some (⟨g, 0, none⟩ : Addr) else some ⟨g, (i + 1) * 2, none⟩) = some A ∧ Hid (∀ t u, D[t]? = some u → w.drew.cell? (A.add t) = some u) := by
    by_cases h : cap = i + 1
    · refine ⟨⟨g, 0, none⟩, by simp [h], fun t u hu => ?_⟩
      have h0 : D.length = 0 := by rw [hDl]; omega
      rw [List.length_eq_zero_iff.1 h0] at hu
      simp at hu
    · refine ⟨⟨g, (i + 1) * 2, none⟩, by simp [h], fun t u hu => ?_⟩
      rw [Addr.add_lit]
      simp only [World.cell?, World.drew, hgh]
      exact hDa t u hu
  obtain ⟨R1, hR1⟩ : ∃ R1 : Array Value, R1 = (cur.toList.take (i * 2) ++ D ++ cur.toList.drop (i * 2 + D.length)).toArray := ⟨_, rfl⟩
  obtain ⟨R2, hR2⟩ : ∃ R2 : Array Value, R2 = (R1.toList.take (n * 2 - 2) ++ ([.string ByteArray.empty, .int .i64 0] : List Value) ++ R1.toList.drop (n * 2 - 2 + 2)).toArray := ⟨_, rfl⟩
  have hfin : R2.toList.take (n * 2 - 2) = X.take (i * 2) ++ D := by
    rw [hR2, hR1, hD]
    exact cut_list cur.toList X (i * 2) (n * 2) 2 hXl hct (by omega) ([.string ByteArray.empty, .int .i64 0] : List Value) rfl (by omega)
  have hs1 : R1.size = cap * 2 := by rw [hR1]; simp [hDl, hcs]; omega
  have hs2 : R2.size = cap * 2 := by rw [hR2]; simp [hs1]; omega
  have hgd : w.drew.heap[g]? = some (.cells cur 81 (0, 0)) := hgh
  obtain ⟨W1, hW1⟩ : ∃ W1, W1 = w.drew.setCells g (0 + i * 2) D := ⟨_, rfl⟩
  have hW1r : W1 = w.drew.setRow g R1 := by rw [hW1, Nat.zero_add, hR1]; exact setCells_setRow hgd (by rw [hDl, hcs]; omega) h1D
  have k1 : W1.heap[g]? = some (.cells R1 81 (0, 0)) := by rw [hW1r]; exact setRow_heap _ g cur R1 _ _ hgd
  have hcl2 : ∀ ty c, (Builtin.clear_ #[67] ty #[.slice (some ⟨g, (n - 1) * 2, none⟩) 1 c]).run Tryz.prog W1 = .ok (.tuple #[]) (W1.setRow g R2) := fun ty c => by
    have := run_clear_ent W1 ty g ((n - 1) * 2) c R1 _ k1 (by rw [hs1]; omega)
    rw [show (n - 1) * 2 = n * 2 - 2 by omega] at this ⊢
    rw [← hR2] at this
    exact this
  have k2 : (W1.setRow g R2).heap[g]? = some (.cells R2 81 (0, 0)) := setRow_heap _ g R1 R2 _ _ k1
  have kw : w.grownBy (W1.setRow g R2) (some g) := by
    rw [hW1r]
    exact (show w.grownBy w.drew (some g) from ⟨rfl, rfl, rfl, Nat.le_refl _, fun _ _ _ => rfl⟩).trans ((grownBy_setRow _ _ _).trans (grownBy_setRow _ _ _))
  have s1 : Hid (D.length = (n - (i + 1)) * 2) := hDl
  have s2 : Hid (∀ u ∈ D, u.oneCell' = true) := h1D
  have s3 : Hid (∀ t, t < D.length → (w.drew.cell? ⟨g, 0 + i * 2 + t, none⟩).isSome = true ∧ w.drew.frozen? ⟨g, 0 + i * 2 + t, none⟩ = false) := by
    intro t ht
    rw [hDl] at ht
    refine ⟨?_, frozen_of_row _ _ _ _ _ hgd⟩
    simp only [World.cell?, hgd]
    simp; omega
  have HF := hid (And.intro hfin (And.intro hs2 (And.intro k2 kw)))
  have HC := hid (And.intro hn (And.intro hnc hcm))
  have HOUT := hid (show (xs.take i ++ xs.drop (i + 1)).flatMap encE = X.take (i * 2) ++ D by rw [List.flatMap_append, hD, hX, flatE_take, flatE_drop, show (i + 1) * 2 = i * 2 + 2 by omega])
  have HOL := hid (show (xs.take i ++ xs.drop (i + 1)).length = n - 1 by simp; omega)
  have hW : Hid (W1 = w.drew.setCells g (0 + i * 2) D) := hW1
  have hw1 : IntKind.i64.wrap ((i : Int) + 1) = (i : Int) + 1 := by rw [IntKind.wrap_i64]; omega
  have htn : ((i : Int) + 1).toNat = i + 1 := by omega
  have hne : ¬ (i : Int) = (i : Int) + 1 := by omega
  have hb1 : (i : Int) + 1 ≤ (n : Int) := by omega
  have hb2 : (0 : Int) ≤ (i : Int) + 1 := by omega
  have hic : i ≤ cap := by omega
  have hn1 : i + (n - (i + 1)) = n - 1 := by omega
  have hnn : n - (n - 1) = 1 := by omega
  have hcn : ¬ cap = n - 1 := by omega
  have hnle : n - 1 ≤ n := by omega
  have hnle2 : n - 1 ≤ cap := by omega
  clear hfin hs1 hs2 hn hcm hDa hXa hct hX hD hR1 hR2 h1X h1D hcl hXl hDl hcs k1 k2 kw hW1r hgd hW1
  go_enter Tryz.func149, Tryz.ntmps149
  go_wp2_with fail
  have mixed : Tryz.prog.follows .mixedOrders = true := by kernel_rfl
  go_region_law_o (refine step_append_room rfl (.tmp 22) (.tmp 25) 67 rfl 81 i0 2 Tryz.underlying67 hi0 hz1 g 0 i cap (by simp [Act.eval, Act.put]) A (n - (i + 1)) (cap - (i + 1)) D (by simp [Act.eval, Act.put]) s1.out hsrc.out s2.out (by omega) s3.out ?_; rw [← hW.out])
  go_wp2_with (simp only [hcl2])
  go_ret
  refine ⟨_, rfl, ⟨by rw [HOL.out, HOUT.out, ← HF.out.1]; simp [HF.out.2.1]; omega, .inr ⟨g, cap, R2, by rw [HOL.out]; rfl, hbg, HF.out.2.2.1, by rw [HOL.out]; omega, HC.out.2.2, HF.out.2.1, by rw [HOL.out, HOUT.out, ← HF.out.1, show (n - 1) * 2 = n * 2 - 2 by omega]⟩⟩, HF.out.2.2.2⟩

end Go.Proofs.YtachfmlfmpaddaaGreatDoor
