/- Walks and plain facts, joined: LwQ, FilesI2, ProofQ. -/
import Derived.Test.YtnaahincolooeaaGreatDoorMg5
import Derived.Test.YtnaahincolooeaaGreatDoorMg28
import Derived.Test.YtnaahincolooeaaGreatDoorMg32
import Derived.Test.YtnaahincolooeaaGreatDoorMg34
set_option linter.unusedVariables false
set_option linter.unusedSimpArgs false

/- What the laws on walks, reads and names say, in plain Lean. No program in sight. -/
namespace Go.Proofs.YtnaahincolooeaaGreatDoor
open Go.RowKit

theorem walkAt_neg {xs : List Pc} : ∀ (ws : List ByteArray) (pr n : Int), walkAt xs pr ws = (n, false) → n = -1
  | [], pr, n, h => by
    unfold walkAt at h
    split at h
    · simp at h
    · simp only [Prod.mk.injEq, and_true] at h; exact h.symm
  | nm :: r, pr, n, h => by
    cases hq : firstOf (entsOf (textAt xs pr)) nm with
    | none => rw [walk_no hq] at h; simp only [Prod.mk.injEq, and_true] at h; exact h.symm
    | some q => rw [walk_some hq] at h; exact walkAt_neg r q n h
theorem walkTo_neg {xs : List Pc} {root n : Int} {path : List UInt8} (h : walkTo xs root path = (n, false)) : n = -1 := by
  cases hs : storeOk xs
  · rw [walk_off (.inl hs)] at h; simp only [Prod.mk.injEq, and_true] at h; exact h.symm
  cases hp : pathParts path with
  | none => rw [walk_off (.inr hp)] at h; simp only [Prod.mk.injEq, and_true] at h; exact h.symm
  | some ws => rw [walk_on hs hp] at h; exact walkAt_neg _ _ _ h
theorem walkTo_pos {xs : List Pc} {root n : Int} {path : List UInt8} (h : walkTo xs root path = (n, true)) : storeOk xs = true ∧ hasP xs n = true ∧ hasP xs root = true ∧ ∃ ws, pathParts path = some ws ∧ walkAt xs root (ws.map strL) = (n, true) := by
  cases hs : storeOk xs
  · rw [walk_off (.inl hs)] at h; simp at h
  cases hp : pathParts path with
  | none => rw [walk_off (.inr hp)] at h; simp at h
  | some ws =>
    rw [walk_on hs hp] at h
    refine ⟨rfl, walk_has _ _ _ h, ?_, ws, rfl, h⟩
    cases hw : ws.map strL with
    | nil => rw [hw] at h; unfold walkAt at h; split at h
             · assumption
             · cases h
    | cons nm r =>
      rw [hw] at h
      cases hq : firstOf (entsOf (textAt xs root)) nm with
      | none => rw [walk_no hq] at h; cases h
      | some q => exact first_has hq
theorem parts_root : pathParts [47] = some [] := rfl
theorem walkTo_root {xs : List Pc} {root : Int} (hs : storeOk xs = true) (hr : hasP xs root = true) : walkTo xs root [47] = (root, true) := by
  rw [walk_on hs parts_root]
  simp only [List.map_nil]
  unfold walkAt
  rw [if_pos hr]
theorem read_neg {xs : List Pc} {root : Int} {path c : List UInt8} (h : readAt xs root path = (c, false)) : c = [] := by
  unfold readAt at h
  split at h
  · simp only [Prod.mk.injEq] at h
    rw [← h.1]; exact fileC_no h.2
  · simp only [Prod.mk.injEq, and_true] at h; exact h.symm
theorem read_pos {xs : List Pc} {root : Int} {path c : List UInt8} (h : readAt xs root path = (c, true)) : ∃ n, walkTo xs root path = (n, true) ∧ fileText c = textAt xs n ∧ storeOk xs = true ∧ hasP xs n = true := by
  unfold readAt at h
  split at h
  · rename_i hw
    obtain ⟨⟨n, ok⟩, hR⟩ : ∃ R, walkTo xs root path = R := ⟨_, rfl⟩
    rw [hR] at h hw
    obtain rfl : ok = true := hw
    simp only [Prod.mk.injEq] at h
    obtain ⟨hs, hn, _⟩ := walkTo_pos hR
    exact ⟨n, hR, by rw [← h.1]; exact file_back h.2, hs, hn⟩
  · simp at h
theorem read_small {xs : List Pc} {root : Int} {path c : List UInt8} {ok : Bool} (h : readAt xs root path = (c, ok)) : c.length ≤ 60 := by
  cases ok
  · rw [read_neg h]; simp
  · obtain ⟨n, _, hf, hs, _⟩ := read_pos h
    have h1 := text_small hs n
    have h2 : (textAt xs n).length ≤ 60 := by unfold textAt; rw [bs_len]; exact h1
    rw [← hf] at h2
    unfold fileText at h2
    split at h2
    · simp at h2; omega
    · rename_i hc
      unfold readAt at h
      split at h
      · simp only [Prod.mk.injEq] at h
        have h3 := h.2
        have h4 := h.1
        unfold isFile at h3
        split at h3
        · cases h3
        · rename_i c' r heq
          have h5 : fileC (c' :: r) = c := by rw [← heq]; exact h4
          unfold fileC at h5
          rw [show isFile (c' :: r) = true from h3] at h5
          simp at h5
          simp only [Bool.and_eq_true, decide_eq_true_eq] at h3
          rw [h5] at h3
          exact absurd h3.2 hc
      · simp at h
theorem names_facts {xs : List Pc} {root : Int} {path : List UInt8} {L : List ByteArray} (h : namesAt xs root path = (L, true)) : L.length ≤ 3 ∧ (∀ x ∈ L, wordOk (bs x) = true) ∧ L.Pairwise (fun a b => ltN a b = true) ∧ (readAt xs root path).2 = false := by
  unfold namesAt at h
  split at h
  · rename_i hw
    simp only [Prod.mk.injEq] at h
    obtain ⟨h1, h2⟩ := h
    obtain ⟨es, hes⟩ := Option.isSome_iff_exists.1 h2
    rw [hes] at h1
    simp only [Option.getD_some] at h1
    have ho := folderAt_ok hes
    obtain ⟨k1, k2, k3⟩ := ents_iff.1 ho
    refine ⟨by rw [← h1, List.length_map]; exact k1, fun x hx => ?_, by rw [← h1, List.pairwise_map]; exact k3, ?_⟩
    · rw [← h1] at hx
      obtain ⟨e, he, rfl⟩ := List.mem_map.1 hx
      exact (entOk_iff.1 (k2 e he)).1
    · unfold readAt
      rw [if_pos hw]
      simp only
      cases hf : isFile (textAt xs (walkTo xs root path).1)
      · rfl
      · have := file_no_folder hf
        rw [folderAt_text, hes] at this
        cases this
  · simp at h
theorem names_off {xs : List Pc} {root : Int} {path : List UInt8} {L : List ByteArray} (h : namesAt xs root path = (L, false)) : L = [] := by
  unfold namesAt at h
  split at h
  · simp only [Prod.mk.injEq] at h
    rw [Option.isSome_eq_false_iff, Option.isNone_iff_eq_none] at h
    rw [h.2] at h
    exact h.1.symm
  · simp only [Prod.mk.injEq, and_true] at h; exact h.symm
theorem names_len {xs : List Pc} {root : Int} {path : List UInt8} : (namesAt xs root path).1.length ≤ 3 := by
  obtain ⟨⟨L, ok⟩, hR⟩ : ∃ R, namesAt xs root path = R := ⟨_, rfl⟩
  rw [hR]
  cases ok
  · rw [names_off hR]; simp
  · exact (names_facts hR).1

/-! ### Files with a name -/
def lastW (p word : ByteArray) : Bool := match pathParts (bs p) with | some ws => decide (ws.getLast? = some (bs word)) | none => false
noncomputable def filesNamed (xs : List Pc) (root : Int) (word : ByteArray) : List ByteArray := (allFiles xs root).filter fun p => lastW p word
theorem named_facts {xs : List Pc} {root : Int} {word p : ByteArray} (h : p ∈ filesNamed xs root word) : ∃ ws : List ByteArray, ws ≠ [] ∧ ws.length ≤ 3 ∧ pathParts (bs p) = some (ws.map bs) ∧ ws.getLast? = some word ∧ (readAt xs root (bs p)).2 = true := by
  obtain ⟨h1, h2⟩ := List.mem_filter.1 h
  obtain ⟨_, ws, h0, hl, hp, _, hr⟩ := among_read h1
  refine ⟨ws, h0, hl, hp, ?_, hr⟩
  unfold lastW at h2
  rw [hp] at h2
  simp only [List.getLast?_map, decide_eq_true_eq] at h2
  cases hg : ws.getLast? with
  | none => rw [hg] at h2; cases h2
  | some y =>
    rw [hg] at h2
    simp only [Option.map_some, Option.some.injEq] at h2
    have := congrArg strL h2
    rw [strL_bs, strL_bs] at this
    rw [this]
theorem files_path {xs : List Pc} {root : Int} {p : ByteArray} (h : p ∈ allFiles xs root) : p.size ≤ 40 := by
  obtain ⟨_, ws, h0, hl, hp, _, _⟩ := among_read h
  have h1 := (pathParts_in hp).2.2
  have h2 := (pathParts_in hp).2.1
  have h3 : (bs p).length ≤ 27 := by
    rw [← h1, joinP_on (by simpa using h0) (by simpa using hl) h2]
    have := flat_len_le (fun x => 47 :: x) 9 (ws.map bs) (fun x hx => by have := (word_len (h2 x hx)).2; simp; omega)
    simp only [List.length_map] at this
    omega
  rw [bs_len] at h3
  omega

end Go.Proofs.YtnaahincolooeaaGreatDoor

/- Walks: the files below a folder, the program's way. -/
namespace Go.Proofs.YtnaahincolooeaaGreatDoor
open Go.RowKit

def isOwnS (B : Nat) (xs : List ByteArray) : Value → World → Prop := fun v w => OwnS w B v xs
def isLitS (B : Nat) (t : ByteArray) : Value → World → Prop := fun v w => ∃ b, v = .slice (some ⟨b, 0, none⟩) 1 1 ∧ B ≤ b ∧ w.heap[b]? = some (.cells #[.string t] 9 (0, 0))
theorem lit_rdS {w : World} {b : Nat} {t : ByteArray} (h : w.heap[b]? = some (.cells #[.string t] 9 (0, 0))) : Strs w w.heap.size (.slice (some ⟨b, 0, none⟩) 1 1) [t] := by
  refine ⟨_, _, rfl, by simp, by simp [maxLen], by simp, fun _ => ⟨_, _, rfl, (Array.getElem?_eq_some_iff.1 h).1, fun j u hu => ?_⟩⟩
  rw [Nat.zero_add, cell_of_row w b j #[.string t] 9 (0, 0) h]
  simpa using hu
def fbCons (j i : Nat) : Bool := j == 5 && (i == 1 || i == 4)

set_option maxHeartbeats 2000000 in
set_option maxRecDepth 100000 in
theorem impl_filesBelow_c (xs : List Pc) (hs : storeOk xs = true) : ∀ (k : Nat) (v pv : Value) (pr : Int) (parts : List ByteArray) (w : World), parts.length + k = 3 → Pcs w w.heap.size v xs → Strs w w.heap.size pv parts → Glob w →
    Calls Tryz.prog 86 #[v, .int .i64 pr, pv] w fun e w' => ∃ v', e = .returned v' ∧ OwnS w' w.heap.size v' (belowF xs k pr parts) ∧ Below w.heap.size w w' := by
  intro k
  induction k with
  | zero =>
    intro v pv pr parts w hk h hp hg
    obtain ⟨pa, pc, rfl, _, _, _⟩ := hp.strs (n := 3) (by omega)
    have HB0 := hid (show belowF xs 0 pr parts = [] by unfold belowF; rfl)
    clear h hp hg hk
    go_enter Tryz.func86, Tryz.ntmps86
    go_wp2
    go_ret
    exact ⟨_, rfl, by rw [HB0.out]; exact Own.nil_, Below.refl _ _⟩
  | succ k ih =>
    intro v pv pr parts w hk h hp hg
    obtain ⟨m, hm⟩ : ∃ m, parts.length = m := ⟨_, rfl⟩
    have hp0 := hp
    obtain ⟨pa, pc, rfl, _, _, _⟩ := hp.strs hm
    have HP : Hid (∀ wx, Below w.heap.size w wx → Pcs wx wx.heap.size v xs) := hid fun wx hx => h.on hx
    have HPP := hid hp0
    have HPL := hid (show parts.length ≤ 1000000 by omega)
    have HG := hid hg
    have hm3 : ((m : Int) == 3) = false := by simp; omega
    have HM := hid hm
    obtain ⟨es, hes⟩ : ∃ es, entsOf (textAt xs pr) = es := ⟨_, rfl⟩
    have HES := hid hes
    obtain ⟨n, hn⟩ : ∃ n, es.length = n := ⟨_, rfl⟩
    have HN := hid hn
    have hn3 : n ≤ 3 := by rw [← hn, ← hes]; exact entsOf_len _
    have HB := hid (show belowF xs (k + 1) pr parts = es.flatMap (fileStep xs k parts) by rw [below_step, hes])
    clear h hp hp0 hg hes hn hm
    go_enter Tryz.func86, Tryz.ntmps86
    go_wp2_with fail
    refine (impl_folderOf_c _ xs pr _ _ rfl (HP.out _ (Below.refl _ _)) hs HG.out).mono ?_
    rw [← entsOf_at, HES.out]
    rintro e w2 ⟨lv, rfl, o2, b2⟩
    have HD2 := hid b2
    have s2 := b2.size
    obtain ⟨la, lc, rfl, _, _, hl3⟩ := (Rd.of_own o2).ents HN.out
    have HL3 := hid hl3
    clear o2 hl3 b2
    go_wp2
    go_loopw [9, 12, 13, 14, 26] (fun out _ _ _ iv wr => ∃ (j : Nat) (acc : List ByteArray), j ≤ n ∧ iv = .int .i64 j ∧ OwnS wr w2.heap.size out acc ∧ Hid (acc = (es.take j).flatMap (fileStep xs k parts)) ∧ acc.length ≤ 9 * j ∧ Below w2.heap.size w2 wr) (fun _ _ _ _ iv _ => n - (intOf iv).toNat)
    case atStart => exact ⟨0, [], Nat.zero_le _, rfl, Own.nil_, hid (by simp), by simp, Below.refl _ _⟩
    case round =>
      obtain ⟨j, acc, hj, rfl, hown, hacc, hlen, hb⟩ := hrel
      by_cases hjn : j < n
      · obtain ⟨b, o, t, r, rfl, hbl, hx, k0, k1⟩ := HL3.out j hjn
        have j0 := (hb.cell (p := ⟨b, o + j * 2, none⟩) hbl).trans k0
        have j1 := (hb.cell (p := ⟨b, o + j * 2 + 1, none⟩) hbl).trans k1
        have hjn' : (j : Int) < n := by omega
        have HACC := hid (show (es.take (j + 1)).flatMap (fileStep xs k parts) = acc ++ fileStep xs k parts ⟨t, r⟩ by rw [flat_succ _ hx.out, hacc.out])
        obtain ⟨fi, hfi⟩ : ∃ fi, isFile (textAt xs r) = fi := ⟨_, rfl⟩
        have HFI := hid hfi
        clear k0 k1 hfi
        go_wp2
        refine drew_out (wr.alloc (.cells #[.string t, .int .i64 r] 91)) ⟨0, rfl⟩ ?_
        rintro W0 ⟨z00, hW0⟩
        obtain ⟨eb, heb⟩ : ∃ eb, wr.heap.size = eb := ⟨_, rfl⟩
        rw [heb]
        have hbA : Below wr.heap.size wr W0 := by rw [hW0]; exact bl_drewN ((Below.refl _ _).alloc (Nat.le_refl _) _) z00
        have hbW := bl_then hb hbA
        have HOUT := hid (hown.on hbA)
        have hhe : W0.heap[eb]? = some (.cells #[.string t, .int .i64 r] 91 (0, 0)) := by rw [hW0, ← heb]; exact heap_alloc_new _ _
        obtain ⟨hec0, hec1, _, _⟩ := two_cells_of hhe
        have hebl : eb < W0.heap.size := (Array.getElem?_eq_some_iff.1 hhe).1
        have HPW := hid (HPP.out.on (bl_then HD2.out hbW))
        clear hW0 hbA hhe hown j0 j1 hb heb
        refine wp_region_inv3e rfl (by kernel_rfl) (by kernel_rfl) (by kernel_rfl) (by kernel_rfl) (by simp) (fun _ w' => Below W0.heap.size W0 w') (fun j w' w'' => w' = w'' ∨ Below w'.heap.size w' w'' ∨ j = 5) (fact [isV (.slice pa m pc), isOwnS W0.heap.size parts, isV (.pointer (some ⟨eb, 0, none⟩)), isV (.string t), isLitS W0.heap.size t, isOwnS W0.heap.size (parts ++ [t]), isOwnS W0.heap.size (parts ++ [t])]) fbCons (Below.refl _ _).drew ?hF ?grd ?oo ?cg ?fin
        case hF =>
          intro j i v w' w'' hS hc hne hwt hdp hf
          have hi : i < 7 ∨ 7 ≤ i := by omega
          rcases hi with hi | hi
          · obtain rfl | rfl | rfl | rfl | rfl | rfl | rfl : i = 0 ∨ i = 1 ∨ i = 2 ∨ i = 3 ∨ i = 4 ∨ i = 5 ∨ i = 6 := by omega
            · exact hf
            · rcases hS with rfl | hb9 | rfl
              · exact hf
              · exact Own.on hf hb9
              · simp [fbCons] at hc
            · exact hf
            · exact hf
            · rcases hS with rfl | hb9 | rfl
              · exact hf
              · obtain ⟨b0, h1, h2, h3⟩ := hf; exact ⟨b0, h1, h2, (hb9.block b0 (Array.getElem?_eq_some_iff.1 h3).1).trans h3⟩
              · simp [fbCons] at hc
            · rcases hS with rfl | hb9 | rfl
              · exact hf
              · exact Own.on hf hb9
              · exact absurd rfl hne
            · rcases hS with rfl | hb9 | rfl
              · exact hf
              · exact Own.on hf hb9
              · exact absurd (hwt.symm.trans (c := true) (by kernel_rfl)) (by decide)
          · unfold fact at *; rw [List.getD_eq_getElem?_getD, List.getElem?_eq_none (by simpa using hi)]; trivial
        case grd =>
          intro i oo d bb hi hg v w' hf
          obtain ⟨hlt1, rfl⟩ := Array.getElem?_eq_some_iff.1 hi
          have hlt' : i < 7 := hlt1
          clear hi
          obtain rfl | rfl | rfl | rfl | rfl | rfl | rfl : i = 0 ∨ i = 1 ∨ i = 2 ∨ i = 3 ∨ i = 4 ∨ i = 5 ∨ i = 6 := by omega
          all_goals simp at hg
        case cg =>
          intro i oo d bb hi hg j
          obtain ⟨hlt1, rfl⟩ := Array.getElem?_eq_some_iff.1 hi
          have hlt' : i < 7 := hlt1
          clear hi
          obtain rfl | rfl | rfl | rfl | rfl | rfl | rfl : i = 0 ∨ i = 1 ∨ i = 2 ∨ i = 3 ∨ i = 4 ∨ i = 5 ∨ i = 6 := by omega
          all_goals simp at hg
        case oo =>
          intro i oo hi qn a' wk hnn hj hb' hd
          obtain ⟨hlt1, rfl⟩ := Array.getElem?_eq_some_iff.1 hi
          have hlt' : i < 7 := hlt1
          clear hi
          obtain rfl | rfl | rfl | rfl | rfl | rfl | rfl : i = 0 ∨ i = 1 ∨ i = 2 ∨ i = 3 ∨ i = 4 ∨ i = 5 ∨ i = 6 := by omega
          · have b2 : a'.eval (.tmp 2) = .slice pa m pc := hb' 2 (by kernel_rfl); have c2 := ev_get b2
            exact iv_val (v := .slice pa m pc) (by simp [execOp, b2]) ⟨_, rfl, hj, .inl rfl, rfl⟩
          · have v0 : a'.eval (.tmp 30) = .slice pa m pc := hd ⟨0, .data⟩ (by simp) rfl (by intro j _ hc; revert hc; unfold fbCons; simp; try omega); have u0 := ev_get v0
            refine iv_enter (f := 124) (args := #[.slice pa m pc]) (by simp [execOp, u0, go_sem]) ?_
            refine (cloneS_c _ parts wk (HPW.out.on hj) HPL.out).mono ?_
            rintro e9 w9 ⟨v9, rfl, o9, b9⟩
            exact ⟨_, rfl, _, rfl, bl_then hj b9, .inr (.inl b9), (show isOwnS W0.heap.size parts _ w9 from o9.less hj.size)⟩
          · have b11 : a'.eval (.tmp 11) = .pointer (some ⟨eb, 0, none⟩) := hb' 11 (by kernel_rfl); have c11 := ev_get b11
            exact iv_val (v := .pointer (some ⟨eb, 0, none⟩)) (by simp [execOp, c11, go_sem, Result.andThen]) ⟨_, rfl, hj, .inl rfl, rfl⟩
          · have v2 : a'.eval (.tmp 32) = .pointer (some ⟨eb, 0, none⟩) := hd ⟨2, .data⟩ (by simp) rfl (by intro j _ hc; revert hc; unfold fbCons; simp; try omega); have u2 := ev_get v2
            have x0 := (hj.cell (p := ⟨eb, 0, none⟩) hebl).trans hec0
            exact iv_val (v := .string t) (by simp [execOp, u2, x0, go_sem, Result.andThen]) ⟨_, rfl, hj, .inl rfl, rfl⟩
          · have v3 : a'.eval (.tmp 33) = .string t := hd ⟨3, .data⟩ (by simp) rfl (by intro j _ hc; revert hc; unfold fbCons; simp; try omega); have u3 := ev_get v3
            exact iv_val (v := .slice (some ⟨wk.heap.size, 0, none⟩) 1 1) (w' := wk.alloc (.cells #[.string t] 9)) (by simp [execOp, u3, go_sem, Result.andThen]) ⟨_, rfl, hj.alloc hj.size _, .inr (.inl ((Below.refl _ _).alloc (Nat.le_refl _) _)), (show isLitS W0.heap.size t _ _ from ⟨_, rfl, hj.size, heap_alloc_new _ _⟩)⟩
          · have e1 : isOwnS W0.heap.size parts (a'.eval (.tmp 31)) wk := hd ⟨1, .data⟩ (by simp) rfl (by intro j _ hc; revert hc; unfold fbCons; simp; try omega)
            have e4 : isLitS W0.heap.size t (a'.eval (.tmp 34)) wk := hd ⟨4, .data⟩ (by simp) rfl (by intro j _ hc; revert hc; unfold fbCons; simp; try omega)
            obtain ⟨b4, v4, hb4, hh4⟩ := e4
            obtain ⟨i0, hi0, hz0, hz1, hz2⟩ := info_parts info_string
            refine wp_cat (enc := encS) wk (.tmp 31) (.tmp 34) 42 rfl W0.heap.size 9 i0 _ 1 16 Tryz.underlying42 hi0 hz0 hz1 hz2 rfl (by decide) (a'.eval (.tmp 31)) (.slice (some ⟨b4, 0, none⟩) 1 1) parts [t] rfl v4 e1 _ (lit_rdS hh4) (by simp [Value.oneCell']) (by have := HPL.out; simp <;> omega) (by decide) hj.size ?_
            intro v' w' ho hg hg'
            exact ⟨_, rfl, hj.grown hg hj.size (fun g hg1 => (Own.lt e1 g hg1).1), .inr (.inr rfl), (show isOwnS _ _ _ _ from ho)⟩
          · have e5 : isOwnS W0.heap.size (parts ++ [t]) (a'.eval (.tmp 35)) wk := hd ⟨5, .data⟩ (by simp) rfl (by intro j _ hc; revert hc; unfold fbCons; simp; try omega)
            exact iv_val (v := a'.eval (.tmp 35)) (by simp [execOp]) ⟨_, rfl, hj, .inl rfl, e5⟩
        case fin =>
          intro tm w9 hj hF
          have o15 : OwnS w9 W0.heap.size (tm.getD 12 undef) (parts ++ [t]) := hF 6 _ rfl (fun j => by unfold fbCons; simp)
          clear hF
          simp only [refillL, List.setIfInBounds_toArray, List.set_cons_succ, List.set_cons_zero]
          obtain ⟨wv, hwv⟩ : ∃ wv, tm.getD 12 undef = wv := ⟨_, rfl⟩
          rw [hwv] at o15 ⊢
          clear hwv
          have O15 := hid o15
          have hec9 := (hj.cell (p := ⟨eb, 1, none⟩) hebl).trans hec1
          have HSZ9 := hid hj.size
          have d9 := bl_then hbW hj
          have OUT9 := hid (HOUT.out.on hj)
          clear o15 hj hec0 hec1
          have W9 := hid (Rd.of_own O15.out)
          go_wp2_with fail
          refine (impl_fileOf_c _ xs r _ (HP.out _ (bl_then HD2.out d9)) hs).mono ?_
          rw [HFI.out]
          rintro e w10 ⟨rfl, b10⟩
          have d10 := bl_then d9 b10
          have OUT10 := hid (OUT9.out.on b10)
          have W10 := hid (W9.out.on b10)
          have hec10 := (b10.cell (p := ⟨eb, 1, none⟩) (Nat.lt_of_lt_of_le hebl HSZ9.out)).trans hec9
          clear b10 OUT9 W9 O15 hec9
          cases fi
          · have HST := hid (show fileStep xs k parts ⟨t, r⟩ = belowF xs k r (parts ++ [t]) by unfold fileStep; rw [if_neg (by rw [HFI.out]; simp)])
            go_wp2_with fail
            refine (ih _ _ r (parts ++ [t]) _ (by simp; omega) (HP.out _ (bl_then HD2.out d10)) W10.out (HG.out.on (bl_then HD2.out d10))).mono ?_
            rintro e w11 ⟨rv, rfl, o11, b11⟩
            have d11 := bl_then d10 b11
            have OUT11 := OUT10.out.on b11
            have R11 := Rd.of_own o11
            have hB11 := d11.size
            have HLE := hid (show (belowF xs k r (parts ++ [t])).length ≤ 9 by rw [← HST.out]; exact step_len xs (by omega) parts _)
            clear b11 o11 d10
            go_wp2_with (at_builtin; refine cat_str (w0 := w2) rfl _ _ rfl w2.heap.size w2.heap.size _ _ _ _ OUT11 _ R11 d11 hB11 (Nat.le_refl _) rfl rfl (by have := HLE.out; omega) ?_; intro v' w' hown' hb' hB' _)
            go_roundw
            case rel => exact ⟨j + 1, _, by omega, by go_num, hown', hid (by rw [HACC.out, ← HST.out]), by simp only [List.length_append]; have := HLE.out; omega, hb'⟩
            case measure => simp [intOf]; omega
          · obtain ⟨jn, hjn0⟩ : ∃ jn, strL (joinP ((parts ++ [t]).map bs)) = jn := ⟨_, rfl⟩
            have HJN := hid hjn0
            have HST := hid (show fileStep xs k parts ⟨t, r⟩ = [jn] by unfold fileStep; rw [if_pos HFI.out, hjn0])
            clear hjn0
            go_wp2_with fail
            refine (impl_JoinPath_c _ (parts ++ [t]) _ W10.out (by have := HPL.out; simp; omega)).mono ?_
            rw [HJN.out]
            rintro e w11 ⟨rfl, b11⟩
            have d11 := bl_then d10 b11
            have OUT11 := OUT10.out.on b11
            have hB11 := d11.size
            clear b11 d10
            go_wp2_with (at_builtin; refine push_str (w0 := w2) rfl _ _ rfl w2.heap.size w2.heap.size _ _ _ OUT11 d11 hB11 (Nat.le_refl _) rfl rfl (by omega) ?_; intro v' w' hown' hb' hB' _)
            go_roundw
            case rel => exact ⟨j + 1, _, by omega, by go_num, hown', hid (by rw [HACC.out, ← HST.out]), by simp only [List.length_append, List.length_singleton]; omega, hb'⟩
            case measure => simp [intOf]; omega
      · have HA := hid (show acc = belowF xs (k + 1) pr parts by rw [HB.out, hacc.out, take_all HN.out (show n ≤ j by omega)])
        have d3 := bl_then HD2.out hb
        go_wp2
        go_ret
        exact ⟨_, rfl, by rw [← HA.out]; exact hown.less s2, d3⟩

set_option maxHeartbeats 2000000 in
set_option maxRecDepth 100000 in
theorem impl_AllFiles_c (v : Value) (xs : List Pc) (root : Int) (w : World) (h : Pcs w w.heap.size v xs) (hg : Glob w) :
    Calls Tryz.prog 28 #[v, .int .i64 root] w fun e w' => ∃ v', e = .returned v' ∧ OwnS w' w.heap.size v' (allFiles xs root) ∧ Below w.heap.size w w' := by
  have HH := hid h
  have HG := hid hg
  obtain ⟨k, hk⟩ : ∃ k, storeOk xs = k := ⟨_, rfl⟩
  have HK := hid hk
  clear h hg hk
  cases k
  · have HO := hid (allFiles_off (root := root) HK.out)
    go_enter Tryz.func28, Tryz.ntmps28
    go_wp2_with fail
    refine (impl_StoreValid_c _ xs _ HH.out).mono ?_
    rw [HK.out]
    rintro e w2 ⟨rfl, b2⟩
    go_wp2
    go_ret
    exact ⟨_, rfl, by rw [HO.out]; exact Own.nil_, b2⟩
  · have HO := hid (allFiles_on (root := root) HK.out)
    go_enter Tryz.func28, Tryz.ntmps28
    go_wp2_with fail
    refine (impl_StoreValid_c _ xs _ HH.out).mono ?_
    rw [HK.out]
    rintro e w2 ⟨rfl, b2⟩
    have s2 := b2.size
    go_wp2_with fail
    refine (impl_filesBelow_c xs HK.out 3 _ _ root [] _ rfl (HH.out.on b2) (Rd.nil _ _ _ 0 none (Nat.zero_le _)) (HG.out.on b2)).mono ?_
    rintro e w3 ⟨rv, rfl, o3, b3⟩
    have d3 := bl_then b2 b3
    go_wp2
    go_ret
    exact ⟨_, rfl, by rw [HO.out]; exact o3.less s2, d3⟩

end Go.Proofs.YtnaahincolooeaaGreatDoor

/- What is there or not can be proved; swept and synced stores keep files: in plain Lean. No program in sight. -/
namespace Go.Proofs.YtnaahincolooeaaGreatDoor
open Go.RowKit

/-! ### FnProofOrAbsence -/
theorem abs_stop {xs : List Pc} : ∀ (ws : List ByteArray) (pr : Int) (T : List ByteArray), absW xs pr ws = some T → ∀ (j : Nat) (c : Int), walkAt xs pr (ws.take j) = (c, true) → (folderAt xs c).isSome = true
  | [], pr, T, h, j, c, hw => by cases h
  | nm :: r, pr, T, h, j, c, hw => by
    unfold absW at h
    cases hf : folderAt xs pr with
    | none => rw [hf] at h; cases h
    | some es =>
      rw [hf] at h
      simp only [] at h
      cases j with
      | zero =>
        rw [List.take_zero] at hw
        unfold walkAt at hw
        split at hw
        · simp only [Prod.mk.injEq, and_true] at hw
          rw [← hw, hf]; rfl
        · cases hw
      | succ j =>
        rw [List.take_succ_cons] at hw
        have e := folder_first hf
        cases hq : firstOf es nm with
        | none => rw [walk_no (by rw [e]; exact hq)] at hw; cases hw
        | some q =>
          rw [hq] at h
          simp only [Option.map_eq_some_iff] at h
          obtain ⟨T', h1, _⟩ := h
          rw [walk_some (by rw [e]; exact hq)] at hw
          exact abs_stop r q T' h1 j c hw
theorem piece_of {xs : List Pc} {pr : Int} (h : hasP xs pr = true) : ∃ x ∈ xs, x.print = pr ∧ getP xs pr = some x.text := by
  obtain ⟨t, ht⟩ := has_get h
  obtain ⟨k, x, hx, hp, rfl⟩ := getP_ex ht
  exact ⟨x, List.mem_of_getElem? hx, hp, ht⟩
theorem folder_named {xs : List Pc} {pr q : Int} {es : List Ent} {nm : ByteArray} (hf : folderAt xs pr = some es) (hq : firstOf es nm = some q) : q ∈ named xs := by
  obtain ⟨x, hx, hp, hg⟩ := piece_of (folder_hasP hf)
  refine named_mem.2 ⟨x, hx, ?_⟩
  have e := folder_first hf
  unfold textAt at e
  rw [hg] at e
  unfold prs
  have e' : entsOf (bs x.text) = es := e
  rw [e']
  exact List.mem_map.2 ⟨_, first_mem hq, rfl⟩
theorem there_or {xs : List Pc} (hm : ∀ y ∈ named xs, hasP xs y = true) : ∀ (ws : List ByteArray) (pr : Int), hasP xs pr = true → (walkAt xs pr ws).2 = true ∨ (absW xs pr ws).isSome = true ∨ ∃ k c, k < ws.length ∧ walkAt xs pr (ws.take k) = (c, true) ∧ folderAt xs c = none
  | [], pr, hp => .inl (by unfold walkAt; rw [if_pos hp])
  | nm :: r, pr, hp => by
    cases hf : folderAt xs pr with
    | none => exact .inr (.inr ⟨0, pr, by simp, by rw [List.take_zero]; unfold walkAt; rw [if_pos hp], hf⟩)
    | some es =>
      have e := folder_first hf
      cases hq : firstOf es nm with
      | none => exact .inr (.inl (by unfold absW; rw [hf]; simp [hq]))
      | some q =>
        have hqp := hm q (folder_named hf hq)
        rw [walk_some (by rw [e]; exact hq)]
        rcases there_or hm r q hqp with h | h | ⟨k, c, hk, h1, h2⟩
        · exact .inl h
        · exact .inr (.inl (by unfold absW; rw [hf]; simp only [hq]; rw [Option.isSome_map]; exact h))
        · exact .inr (.inr ⟨k + 1, c, by simpa using hk, by rw [List.take_succ_cons, walk_some (by rw [e]; exact hq)]; exact h1, h2⟩)
/-- Something that is no folder is on the way. -/
def StopAt (xs : List Pc) (root : Int) (ws : List ByteArray) : Prop := ∃ k c, k < ws.length ∧ walkAt xs root (ws.take k) = (c, true) ∧ folderAt xs c = none
theorem missing_none {xs : List Pc} (hs : storeOk xs = true) (h : missingOf xs = []) : ∀ y ∈ named xs, hasP xs y = true := by
  intro y hy
  cases hp : hasP xs y
  · have := (missing_mem hs).2 ⟨hy, hp⟩
    rw [h] at this; cases this
  · rfl
theorem lw_or {xs : List Pc} {root : Int} {path : List UInt8} {ws : List (List UInt8)} (hs : storeOk xs = true) (hp : pathParts path = some ws) (hr : hasP xs root = true) (hm : missingOf xs = []) :
    (pathProof xs root path ≠ [] ∨ absProof xs root path ≠ [] ∨ StopAt xs root (ws.map strL)) ∧ ¬ (pathProof xs root path ≠ [] ∧ absProof xs root path ≠ []) ∧ ¬ (absProof xs root path ≠ [] ∧ StopAt xs root (ws.map strL)) := by
  have e1 : pathProof xs root path ≠ [] ↔ (walkAt xs root (ws.map strL)).2 = true := by
    have := proof_pos (xs := xs) (root := root) (path := path)
    rw [walk_on hs hp] at this
    rw [this, decide_eq_true_eq]
    exact List.length_pos_iff.symm
  have e2 : absProof xs root path ≠ [] ↔ (absW xs root (ws.map strL)).isSome = true := by
    unfold absProof
    rw [hp]
    simp only []
    rw [if_pos hs]
    cases ha : absW xs root (ws.map strL) with
    | none => simp
    | some T =>
      obtain ⟨k, c, es, nm, _, _, _, _, _, rfl⟩ := abs_at hs _ _ _ ha
      simp [wayT_ne]
  refine ⟨?_, ?_, ?_⟩
  · rcases there_or (missing_none hs hm) (ws.map strL) root hr with h | h | h
    · exact .inl (e1.2 h)
    · exact .inr (.inl (e2.2 h))
    · exact .inr (.inr h)
  · rintro ⟨h1, h2⟩
    have h3 := (abs_facts h2).1
    rw [walk_on hs hp, e1.1 h1] at h3
    cases h3
  · rintro ⟨h1, k, c, hk, hw, hf⟩
    obtain ⟨T, hT⟩ := Option.isSome_iff_exists.1 (e2.1 h1)
    have := abs_stop _ _ _ hT k c hw
    rw [hf] at this; cases this

/-! ### What roots reach keeps its files -/
theorem walk_has0 {s : List Pc} {pr c : Int} : ∀ {ws : List ByteArray}, walkAt s pr ws = (c, true) → hasP s pr = true
  | [], h => by
    unfold walkAt at h
    split at h
    · assumption
    · cases h
  | nm :: r, h => by
    cases hq : firstOf (entsOf (textAt s pr)) nm with
    | none => rw [walk_no hq] at h; cases h
    | some q => exact first_has hq
theorem rch_child {s : List Pc} {roots : List Int} {pr q : Int} {nm : ByteArray} (h : Rch s roots pr) (hq : firstOf (entsOf (textAt s pr)) nm = some q) (hp : hasP s q = true) : Rch s roots q := by
  obtain ⟨x, hx, e, hg⟩ := piece_of (first_has hq)
  refine rch_step hx (by rw [e]; exact h) ?_ hp
  unfold prs
  have e' : entsOf (bs x.text) = entsOf (textAt s pr) := by unfold textAt; rw [hg]; rfl
  rw [e']
  exact List.mem_map.2 ⟨_, first_mem hq, rfl⟩
theorem rch_has {s : List Pc} {roots : List Int} {y : Int} (h : Rch s roots y) : hasP s y = true := h (fun y => hasP s y = true) ⟨fun _ _ h => h, fun _ _ _ _ _ h => h⟩
/-- All that roots reach is in the other store. -/
def KeepsR (s x : List Pc) (roots : List Int) : Prop := ∀ n t, Rch s roots n → getP s n = some t → getP x n = some t
theorem keepsR_text {s x : List Pc} {roots : List Int} (H : KeepsR s x roots) {pr : Int} (h : Rch s roots pr) : textAt x pr = textAt s pr ∧ hasP x pr = true := by
  obtain ⟨t, ht⟩ := has_get (rch_has h)
  have := H pr t h ht
  exact ⟨by unfold textAt; rw [ht, this], get_has this⟩
theorem walk_keepsR {s x : List Pc} {roots : List Int} (H : KeepsR s x roots) : ∀ (ws : List ByteArray) (pr c : Int), Rch s roots pr → walkAt s pr ws = (c, true) → walkAt x pr ws = (c, true) ∧ Rch s roots c
  | [], pr, c, h, hw => by
    unfold walkAt at hw ⊢
    split at hw
    · simp only [Prod.mk.injEq, and_true] at hw
      subst hw
      rw [if_pos (keepsR_text H h).2]
      exact ⟨rfl, h⟩
    · cases hw
  | nm :: r, pr, c, h, hw => by
    cases hq : firstOf (entsOf (textAt s pr)) nm with
    | none => rw [walk_no hq] at hw; cases hw
    | some q =>
      rw [walk_some hq] at hw
      rw [walk_some (by rw [(keepsR_text H h).1]; exact hq)]
      exact walk_keepsR H r q c (rch_child h hq (walk_has0 hw)) hw
theorem read_keepsR {s x : List Pc} {roots : List Int} (H : KeepsR s x roots) (hx : storeOk x = true) {root : Int} (hr : root ∈ roots) {path : List UInt8} (hf : (readAt s root path).2 = true) : readAt x root path = readAt s root path := by
  cases hs : storeOk s
  · have := walk_off (xs := s) (root := root) (path := path) (.inl hs)
    unfold readAt at hf
    rw [this] at hf
    simp at hf
  cases hp : pathParts path with
  | none =>
    have := walk_off (xs := s) (root := root) (path := path) (.inr hp)
    unfold readAt at hf
    rw [this] at hf
    simp at hf
  | some ws =>
    have hw := walk_on (root := root) hs hp
    have hw' := walk_on (root := root) hx hp
    unfold readAt at hf ⊢
    rw [hw] at hf ⊢
    rw [hw']
    obtain ⟨⟨c, ok⟩, hR⟩ : ∃ R, walkAt s root (ws.map strL) = R := ⟨_, rfl⟩
    rw [hR] at hf ⊢
    cases ok
    · simp at hf
    · obtain ⟨h1, h2⟩ := walk_keepsR H _ _ _ (rch_root hr (walk_has0 hR)) hR
      rw [h1]
      simp only [if_true]
      rw [(keepsR_text H h2).1]
/-- keepsFiles, as a law asks it. -/
def Keeps (s x : List Pc) (root : Int) : Prop := ∀ p ∈ allFiles s root, (readAt x root (bs p)).2 = true ∧ (readAt x root (bs p)).1 = (readAt s root (bs p)).1
theorem keeps_le {s x : List Pc} {root : Int} (h : Le s x) (hs : storeOk s = true) (hx : storeOk x = true) : Keeps s x root := by
  intro p hp
  obtain ⟨_, _, _, _, _, _, hr⟩ := among_read hp
  rw [read_le h hs hx hr]
  exact ⟨hr, rfl⟩
theorem keeps_r {s x : List Pc} {roots : List Int} {root : Int} (H : KeepsR s x roots) (hx : storeOk x = true) (hr : root ∈ roots) : Keeps s x root := by
  intro p hp
  obtain ⟨_, _, _, _, _, _, hf⟩ := among_read hp
  rw [read_keepsR H hx hr hf]
  exact ⟨hf, rfl⟩

/-! ### FnSweepStore -/
theorem sweep_ok {s : List Pc} {roots : List Int} (hs : storeOk s = true) : storeOk (sweepOf s roots) = true := by
  rw [sweepOf_on hs]
  obtain ⟨h1, h2, h3⟩ := st_iff.1 hs
  exact st_iff.2 ⟨Nat.le_trans (List.length_filter_le _ _) h1, fun x hx => h2 x ((List.mem_filter.1 hx).1), h3.filter _⟩
theorem sweep_keeps {s : List Pc} {roots : List Int} (hs : storeOk s = true) : KeepsR s (sweepOf s roots) roots := by
  intro n t hr hg
  refine (getP_iff (sweep_ok hs)).2 ?_
  rw [sweepOf_on hs, List.mem_filter]
  exact ⟨(getP_iff hs).1 hg, inR_iff.2 hr⟩
theorem sweep_twice {s : List Pc} {roots : List Int} (hs : storeOk s = true) : sweepOf (sweepOf s roots) roots = sweepOf s roots := by
  have hx := sweep_ok (roots := roots) hs
  rw [sweepOf_on hx]
  rw [List.filter_eq_self]
  intro p hp
  have hp' := hp
  rw [sweepOf_on hs, List.mem_filter] at hp'
  obtain ⟨hps, hpr⟩ := hp'
  refine inR_iff.2 ?_
  have hR := inR_iff.1 hpr
  have HK := sweep_keeps (roots := roots) hs
  have key : ∀ y, Rch s roots y → (Rch s roots y ∧ Rch (sweepOf s roots) roots y) := by
    intro y hy
    refine hy (fun y => Rch s roots y ∧ Rch (sweepOf s roots) roots y) ⟨fun z hz hzp => ?_, fun x hxs hxr z hz hzp => ?_⟩
    · have h1 := rch_root hz hzp
      exact ⟨h1, rch_root hz (keepsR_text HK h1).2⟩
    · obtain ⟨h1, h2⟩ := hxr
      have h3 := rch_step hxs h1 hz hzp
      refine ⟨h3, rch_step (x := x) ?_ h2 hz (keepsR_text HK h3).2⟩
      rw [sweepOf_on hs, List.mem_filter]
      exact ⟨hxs, inR_iff.2 h1⟩
  exact (key _ hR).2

/-! ### FnSyncRoot -/
theorem take_all_in {ps : List Int} : ∀ (ts : List ByteArray) (s : List Pc × Nat), storeOk s.1 = true → (ts.foldl (takeStep ps) s).2 = s.2 → ∀ t ∈ ts, getP (ts.foldl (takeStep ps) s).1 (printOf (bs t)) = some t
  | [], s, h, e, t, ht => by cases ht
  | u :: r, s, h, e, t, ht => by
    rw [List.foldl_cons] at e ⊢
    obtain ⟨i1, i2, _, i4, _, _⟩ := take_get (ps := ps) r (takeStep ps s u) (takeStep_ok h)
    by_cases hc : ((putS s.1 u).2.2 && hasI ps (putS s.1 u).2.1) = true
    · have e1 : takeStep ps s u = ((putS s.1 u).1, s.2) := by unfold takeStep; rw [if_pos hc]
      rcases List.mem_cons.1 ht with rfl | ht
      · refine i2 _ _ ?_
        rw [e1]
        exact ((put_get h (Bool.and_eq_true_iff.1 hc).1).2.2.2 _ _).2 (.inr ⟨rfl, rfl⟩)
      · refine take_all_in r _ (takeStep_ok h) ?_ t ht
        rw [e, e1]
    · have e1 : takeStep ps s u = (s.1, s.2 + 1) := by unfold takeStep; rw [if_neg hc]
      rw [e1] at i4 e
      simp only [] at i4
      omega
theorem reach_mem {l : List Pc} {roots : List Int} {y : Int} (h : storeOk l = true) (hr : Rch l roots y) : y ∈ reachOf l roots := by
  rw [reachOf_on h]
  obtain ⟨x, hx, e, _⟩ := piece_of (rch_has hr)
  exact List.mem_map.2 ⟨x, List.mem_filter.2 ⟨hx, inR_iff.2 (by rw [e]; exact hr)⟩, e⟩
theorem mem_reach {l : List Pc} {roots : List Int} {y : Int} (h : storeOk l = true) (hr : y ∈ reachOf l roots) : Rch l roots y := by
  rw [reachOf_on h] at hr
  obtain ⟨x, hx, rfl⟩ := List.mem_map.1 hr
  exact inR_iff.1 (List.mem_filter.1 hx).2
/-- Two stores have two different texts with the same print. -/
def Clash (a b : List Pc) : Prop := ∃ x ∈ a, ∃ y ∈ b, x.print = y.print ∧ x.text ≠ y.text
theorem lw_sync {tt fr : List Pc} {root : Int} (ht : storeOk tt = true) (hf : storeOk fr = true) : ∃ (X : List Pc) (many : Nat), syncOf tt fr root = (X, (many : Int)) ∧ storeOk X = true ∧ X.length ≤ tt.length + many ∧
    (X.length = tt.length + many → ¬ Clash tt fr → (syncOf X fr root).2 = 0 ∧ Keeps fr X root) := by
  obtain ⟨X, b, e, hX, hle, _, hb, hlen⟩ := lw_take ht (wantedOf tt (reachOf fr [root])) (sendTexts fr (wantedOf tt (reachOf fr [root])))
  refine ⟨X, (sendTexts fr (wantedOf tt (reachOf fr [root]))).length, ?_, hX, by omega, ?_⟩
  · unfold syncOf
    rw [if_pos ⟨ht, hf⟩, e]
  intro hfull hcl
  have e2 : (takeFrom tt (wantedOf tt (reachOf fr [root])) (sendTexts fr (wantedOf tt (reachOf fr [root])))).1 = X ∧ (takeFrom tt (wantedOf tt (reachOf fr [root])) (sendTexts fr (wantedOf tt (reachOf fr [root])))).2 = 0 := by
    unfold takeTexts at e
    rw [if_pos ht] at e
    simp only [Prod.mk.injEq] at e
    exact ⟨e.1, by omega⟩
  have hall : ∀ t ∈ sendTexts fr (wantedOf tt (reachOf fr [root])), getP X (printOf (bs t)) = some t := by
    rw [← e2.1]
    exact take_all_in _ (tt, 0) ht e2.2
  have HK : KeepsR fr X [root] := by
    intro n t hr hg
    cases hp : hasP tt n
    · have hw : n ∈ wantedOf tt (reachOf fr [root]) := (wantedOf_mem ht).2 ⟨reach_mem hf hr, hp⟩
      have hst : t ∈ sendTexts fr (wantedOf tt (reachOf fr [root])) := by
        rw [sendTexts_on hf]
        exact List.mem_filterMap.2 ⟨n, hw, hg⟩
      have := hall t hst
      rwa [(getP_text hf hg).2.1] at this
    · obtain ⟨u, hu⟩ := has_get hp
      by_cases hut : u = t
      · rw [← hut]; exact hle _ _ hu
      · exfalso
        exact hcl ⟨⟨n, u⟩, (getP_iff ht).1 hu, ⟨n, t⟩, (getP_iff hf).1 hg, rfl, hut⟩
  refine ⟨?_, keeps_r HK hX (by simp)⟩
  have hw0 : wantedOf X (reachOf fr [root]) = [] := by
    rw [List.eq_nil_iff_forall_not_mem]
    intro y hy
    obtain ⟨h1, h2⟩ := (wantedOf_mem hX).1 hy
    have := (keepsR_text HK (mem_reach hf h1)).2
    rw [h2] at this; cases this
  unfold syncOf
  rw [if_pos ⟨hX, hf⟩, hw0, sendTexts_on hf]; rfl

end Go.Proofs.YtnaahincolooeaaGreatDoor
