/- Walks and plain facts, joined: LwQ, FilesI2, ProofQ. -/
import Derived.Test.YtachfmlfmpaddaaGreatDoorMg5
import Derived.Test.YtachfmlfmpaddaaGreatDoorMg27
import Derived.Test.YtachfmlfmpaddaaGreatDoorMg30
set_option linter.unusedVariables false
set_option linter.unusedSimpArgs false

/- What the laws on walks, reads and names say, in plain Lean. No program in sight. -/
namespace Go.Proofs.YtachfmlfmpaddaaGreatDoor
open Go.RowKit

theorem walkTo_pos {xs : List Pc} {root n : Int} {path : List UInt8} (h : walkTo xs root path = (n, true)) : storeOk xs = true ∧ hasP xs n = true ∧ hasP xs root = true ∧ ∃ ws, pathParts path = some ws ∧ walkAt xs root (ws.map strL) = (n, true) := by
  cases hs : storeOk xs
  · rw [walk_off (.inl hs)] at h; simp at h
  cases hp : pathParts path with
  | none => rw [walk_off (.inr hp)] at h; simp at h
  | some ws =>
    rw [walk_on hs hp] at h
    refine ⟨rfl, walk_has _ _ _ h, ?_, ws, rfl, h⟩
    cases hw : ws.map strL with
    | nil => rw [hw] at h; unfold walkAt at h; split at h
             · assumption
             · cases h
    | cons nm r =>
      rw [hw] at h
      cases hq : firstOf (entsOf (textAt xs root)) nm with
      | none => rw [walk_no hq] at h; cases h
      | some q => exact first_has hq
theorem read_neg {xs : List Pc} {root : Int} {path c : List UInt8} (h : readAt xs root path = (c, false)) : c = [] := by
  unfold readAt at h
  split at h
  · simp only [Prod.mk.injEq] at h
    rw [← h.1]; exact fileC_no h.2
  · simp only [Prod.mk.injEq, and_true] at h; exact h.symm
theorem read_pos {xs : List Pc} {root : Int} {path c : List UInt8} (h : readAt xs root path = (c, true)) : ∃ n, walkTo xs root path = (n, true) ∧ fileText c = textAt xs n ∧ storeOk xs = true ∧ hasP xs n = true := by
  unfold readAt at h
  split at h
  · rename_i hw
    obtain ⟨⟨n, ok⟩, hR⟩ : ∃ R, walkTo xs root path = R := ⟨_, rfl⟩
    rw [hR] at h hw
    obtain rfl : ok = true := hw
    simp only [Prod.mk.injEq] at h
    obtain ⟨hs, hn, _⟩ := walkTo_pos hR
    exact ⟨n, hR, by rw [← h.1]; exact file_back h.2, hs, hn⟩
  · simp at h
theorem read_small {xs : List Pc} {root : Int} {path c : List UInt8} {ok : Bool} (h : readAt xs root path = (c, ok)) : c.length ≤ 60 := by
  cases ok
  · rw [read_neg h]; simp
  · obtain ⟨n, _, hf, hs, _⟩ := read_pos h
    have h1 := text_small hs n
    have h2 : (textAt xs n).length ≤ 60 := by unfold textAt; rw [bs_len]; exact h1
    rw [← hf] at h2
    unfold fileText at h2
    split at h2
    · simp at h2; omega
    · rename_i hc
      unfold readAt at h
      split at h
      · simp only [Prod.mk.injEq] at h
        have h3 := h.2
        have h4 := h.1
        unfold isFile at h3
        split at h3
        · cases h3
        · rename_i c' r heq
          have h5 : fileC (c' :: r) = c := by rw [← heq]; exact h4
          unfold fileC at h5
          rw [show isFile (c' :: r) = true from h3] at h5
          simp at h5
          simp only [Bool.and_eq_true, decide_eq_true_eq] at h3
          rw [h5] at h3
          exact absurd h3.2 hc
      · simp at h
/-! ### Files with a name -/
theorem files_path {xs : List Pc} {root : Int} {p : ByteArray} (h : p ∈ allFiles xs root) : p.size ≤ 40 := by
  obtain ⟨_, ws, h0, hl, hp, _, _⟩ := among_read h
  have h1 := (pathParts_in hp).2.2
  have h2 := (pathParts_in hp).2.1
  have h3 : (bs p).length ≤ 27 := by
    rw [← h1, joinP_on (by simpa using h0) (by simpa using hl) h2]
    have := flat_len_le (fun x => 47 :: x) 9 (ws.map bs) (fun x hx => by have := (word_len (h2 x hx)).2; simp; omega)
    simp only [List.length_map] at this
    omega
  rw [bs_len] at h3
  omega

end Go.Proofs.YtachfmlfmpaddaaGreatDoor

/- Walks: the files below a folder, the program's way. -/
namespace Go.Proofs.YtachfmlfmpaddaaGreatDoor
open Go.RowKit

def isOwnS (B : Nat) (xs : List ByteArray) : Value → World → Prop := fun v w => OwnS w B v xs
def isLitS (B : Nat) (t : ByteArray) : Value → World → Prop := fun v w => ∃ b, v = .slice (some ⟨b, 0, none⟩) 1 1 ∧ B ≤ b ∧ w.heap[b]? = some (.cells #[.string t] 9 (0, 0))
theorem lit_rdS {w : World} {b : Nat} {t : ByteArray} (h : w.heap[b]? = some (.cells #[.string t] 9 (0, 0))) : Strs w w.heap.size (.slice (some ⟨b, 0, none⟩) 1 1) [t] := by
  refine ⟨_, _, rfl, by simp, by simp [maxLen], by simp, fun _ => ⟨_, _, rfl, (Array.getElem?_eq_some_iff.1 h).1, fun j u hu => ?_⟩⟩
  rw [Nat.zero_add, cell_of_row w b j #[.string t] 9 (0, 0) h]
  simpa using hu
def fbCons (j i : Nat) : Bool := j == 5 && (i == 1 || i == 4)

set_option maxHeartbeats 2000000 in
set_option maxRecDepth 100000 in
theorem impl_filesBelow_c (xs : List Pc) (hs : storeOk xs = true) : ∀ (k : Nat) (v pv : Value) (pr : Int) (parts : List ByteArray) (w : World), parts.length + k = 3 → Pcs w w.heap.size v xs → Strs w w.heap.size pv parts → Glob w →
    Calls Tryz.prog 87 #[v, .int .i64 pr, pv] w fun e w' => ∃ v', e = .returned v' ∧ OwnS w' w.heap.size v' (belowF xs k pr parts) ∧ Below w.heap.size w w' := by
  intro k
  induction k with
  | zero =>
    intro v pv pr parts w hk h hp hg
    obtain ⟨pa, pc, rfl, _, _, _⟩ := hp.strs (n := 3) (by omega)
    have HB0 := hid (show belowF xs 0 pr parts = [] by unfold belowF; rfl)
    clear h hp hg hk
    go_enter Tryz.func87, Tryz.ntmps87
    go_wp2
    go_ret
    exact ⟨_, rfl, by rw [HB0.out]; exact Own.nil_, Below.refl _ _⟩
  | succ k ih =>
    intro v pv pr parts w hk h hp hg
    obtain ⟨m, hm⟩ : ∃ m, parts.length = m := ⟨_, rfl⟩
    have hp0 := hp
    obtain ⟨pa, pc, rfl, _, _, _⟩ := hp.strs hm
    have HP : Hid (∀ wx, Below w.heap.size w wx → Pcs wx wx.heap.size v xs) := hid fun wx hx => h.on hx
    have HPP := hid hp0
    have HPL := hid (show parts.length ≤ 1000000 by omega)
    have HG := hid hg
    have hm3 : ((m : Int) == 3) = false := by simp; omega
    have HM := hid hm
    obtain ⟨es, hes⟩ : ∃ es, entsOf (textAt xs pr) = es := ⟨_, rfl⟩
    have HES := hid hes
    obtain ⟨n, hn⟩ : ∃ n, es.length = n := ⟨_, rfl⟩
    have HN := hid hn
    have hn3 : n ≤ 3 := by rw [← hn, ← hes]; exact entsOf_len _
    have HB := hid (show belowF xs (k + 1) pr parts = es.flatMap (fileStep xs k parts) by rw [below_step, hes])
    clear h hp hp0 hg hes hn hm
    go_enter Tryz.func87, Tryz.ntmps87
    go_wp2_with fail
    refine (impl_folderOf_c _ xs pr _ _ rfl (HP.out _ (Below.refl _ _)) hs HG.out).mono ?_
    rw [← entsOf_at, HES.out]
    rintro e w2 ⟨lv, rfl, o2, b2⟩
    have HD2 := hid b2
    have s2 := b2.size
    obtain ⟨la, lc, rfl, _, _, hl3⟩ := (Rd.of_own o2).ents HN.out
    have HL3 := hid hl3
    clear o2 hl3 b2
    go_wp2
    go_loopw [9, 12, 13, 14, 26] (fun out _ _ _ iv wr => ∃ (j : Nat) (acc : List ByteArray), j ≤ n ∧ iv = .int .i64 j ∧ OwnS wr w2.heap.size out acc ∧ Hid (acc = (es.take j).flatMap (fileStep xs k parts)) ∧ acc.length ≤ 9 * j ∧ Below w2.heap.size w2 wr) (fun _ _ _ _ iv _ => n - (intOf iv).toNat)
    case atStart => exact ⟨0, [], Nat.zero_le _, rfl, Own.nil_, hid (by simp), by simp, Below.refl _ _⟩
    case round =>
      obtain ⟨j, acc, hj, rfl, hown, hacc, hlen, hb⟩ := hrel
      by_cases hjn : j < n
      · obtain ⟨b, o, t, r, rfl, hbl, hx, k0, k1⟩ := HL3.out j hjn
        have j0 := (hb.cell (p := ⟨b, o + j * 2, none⟩) hbl).trans k0
        have j1 := (hb.cell (p := ⟨b, o + j * 2 + 1, none⟩) hbl).trans k1
        have hjn' : (j : Int) < n := by omega
        have HACC := hid (show (es.take (j + 1)).flatMap (fileStep xs k parts) = acc ++ fileStep xs k parts ⟨t, r⟩ by rw [flat_succ _ hx.out, hacc.out])
        obtain ⟨fi, hfi⟩ : ∃ fi, isFile (textAt xs r) = fi := ⟨_, rfl⟩
        have HFI := hid hfi
        clear k0 k1 hfi
        go_wp2
        refine drew_out (wr.alloc (.cells #[.string t, .int .i64 r] 81)) ⟨0, rfl⟩ ?_
        rintro W0 ⟨z00, hW0⟩
        obtain ⟨eb, heb⟩ : ∃ eb, wr.heap.size = eb := ⟨_, rfl⟩
        rw [heb]
        have hbA : Below wr.heap.size wr W0 := by rw [hW0]; exact bl_drewN ((Below.refl _ _).alloc (Nat.le_refl _) _) z00
        have hbW := bl_then hb hbA
        have HOUT := hid (hown.on hbA)
        have hhe : W0.heap[eb]? = some (.cells #[.string t, .int .i64 r] 81 (0, 0)) := by rw [hW0, ← heb]; exact heap_alloc_new _ _
        obtain ⟨hec0, hec1, _, _⟩ := two_cells_of hhe
        have hebl : eb < W0.heap.size := (Array.getElem?_eq_some_iff.1 hhe).1
        have HPW := hid (HPP.out.on (bl_then HD2.out hbW))
        clear hW0 hbA hhe hown j0 j1 hb heb
        refine wp_region_inv3e rfl (by kernel_rfl) (by kernel_rfl) (by kernel_rfl) (by kernel_rfl) (by simp) (fun _ w' => Below W0.heap.size W0 w') (fun j w' w'' => w' = w'' ∨ Below w'.heap.size w' w'' ∨ j = 5) (fact [isV (.slice pa m pc), isOwnS W0.heap.size parts, isV (.pointer (some ⟨eb, 0, none⟩)), isV (.string t), isLitS W0.heap.size t, isOwnS W0.heap.size (parts ++ [t]), isOwnS W0.heap.size (parts ++ [t])]) fbCons (Below.refl _ _).drew ?hF ?grd ?oo ?cg ?fin
        case hF =>
          intro j i v w' w'' hS hc hne hwt hdp hf
          have hi : i < 7 ∨ 7 ≤ i := by omega
          rcases hi with hi | hi
          · obtain rfl | rfl | rfl | rfl | rfl | rfl | rfl : i = 0 ∨ i = 1 ∨ i = 2 ∨ i = 3 ∨ i = 4 ∨ i = 5 ∨ i = 6 := by omega
            · exact hf
            · rcases hS with rfl | hb9 | rfl
              · exact hf
              · exact Own.on hf hb9
              · simp [fbCons] at hc
            · exact hf
            · exact hf
            · rcases hS with rfl | hb9 | rfl
              · exact hf
              · obtain ⟨b0, h1, h2, h3⟩ := hf; exact ⟨b0, h1, h2, (hb9.block b0 (Array.getElem?_eq_some_iff.1 h3).1).trans h3⟩
              · simp [fbCons] at hc
            · rcases hS with rfl | hb9 | rfl
              · exact hf
              · exact Own.on hf hb9
              · exact absurd rfl hne
            · rcases hS with rfl | hb9 | rfl
              · exact hf
              · exact Own.on hf hb9
              · exact absurd (hwt.symm.trans (c := true) (by kernel_rfl)) (by decide)
          · unfold fact at *; rw [List.getD_eq_getElem?_getD, List.getElem?_eq_none (by simpa using hi)]; trivial
        case grd =>
          intro i oo d bb hi hg v w' hf
          obtain ⟨hlt1, rfl⟩ := Array.getElem?_eq_some_iff.1 hi
          have hlt' : i < 7 := hlt1
          clear hi
          obtain rfl | rfl | rfl | rfl | rfl | rfl | rfl : i = 0 ∨ i = 1 ∨ i = 2 ∨ i = 3 ∨ i = 4 ∨ i = 5 ∨ i = 6 := by omega
          all_goals simp at hg
        case cg =>
          intro i oo d bb hi hg j
          obtain ⟨hlt1, rfl⟩ := Array.getElem?_eq_some_iff.1 hi
          have hlt' : i < 7 := hlt1
          clear hi
          obtain rfl | rfl | rfl | rfl | rfl | rfl | rfl : i = 0 ∨ i = 1 ∨ i = 2 ∨ i = 3 ∨ i = 4 ∨ i = 5 ∨ i = 6 := by omega
          all_goals simp at hg
        case oo =>
          intro i oo hi qn a' wk hnn hj hb' hd
          obtain ⟨hlt1, rfl⟩ := Array.getElem?_eq_some_iff.1 hi
          have hlt' : i < 7 := hlt1
          clear hi
          obtain rfl | rfl | rfl | rfl | rfl | rfl | rfl : i = 0 ∨ i = 1 ∨ i = 2 ∨ i = 3 ∨ i = 4 ∨ i = 5 ∨ i = 6 := by omega
          · have b2 : a'.eval (.tmp 2) = .slice pa m pc := hb' 2 (by kernel_rfl); have c2 := ev_get b2
            exact iv_val (v := .slice pa m pc) (by simp [execOp, b2]) ⟨_, rfl, hj, .inl rfl, rfl⟩
          · have v0 : a'.eval (.tmp 30) = .slice pa m pc := hd ⟨0, .data⟩ (by simp) rfl (by intro j _ hc; revert hc; unfold fbCons; simp; try omega); have u0 := ev_get v0
            refine iv_enter (f := 139) (args := #[.slice pa m pc]) (by simp [execOp, u0, go_sem]) ?_
            refine (cloneS_c _ parts wk (HPW.out.on hj) HPL.out).mono ?_
            rintro e9 w9 ⟨v9, rfl, o9, b9⟩
            exact ⟨_, rfl, _, rfl, bl_then hj b9, .inr (.inl b9), (show isOwnS W0.heap.size parts _ w9 from o9.less hj.size)⟩
          · have b11 : a'.eval (.tmp 11) = .pointer (some ⟨eb, 0, none⟩) := hb' 11 (by kernel_rfl); have c11 := ev_get b11
            exact iv_val (v := .pointer (some ⟨eb, 0, none⟩)) (by simp [execOp, c11, go_sem, Result.andThen]) ⟨_, rfl, hj, .inl rfl, rfl⟩
          · have v2 : a'.eval (.tmp 32) = .pointer (some ⟨eb, 0, none⟩) := hd ⟨2, .data⟩ (by simp) rfl (by intro j _ hc; revert hc; unfold fbCons; simp; try omega); have u2 := ev_get v2
            have x0 := (hj.cell (p := ⟨eb, 0, none⟩) hebl).trans hec0
            exact iv_val (v := .string t) (by simp [execOp, u2, x0, go_sem, Result.andThen]) ⟨_, rfl, hj, .inl rfl, rfl⟩
          · have v3 : a'.eval (.tmp 33) = .string t := hd ⟨3, .data⟩ (by simp) rfl (by intro j _ hc; revert hc; unfold fbCons; simp; try omega); have u3 := ev_get v3
            exact iv_val (v := .slice (some ⟨wk.heap.size, 0, none⟩) 1 1) (w' := wk.alloc (.cells #[.string t] 9)) (by simp [execOp, u3, go_sem, Result.andThen]) ⟨_, rfl, hj.alloc hj.size _, .inr (.inl ((Below.refl _ _).alloc (Nat.le_refl _) _)), (show isLitS W0.heap.size t _ _ from ⟨_, rfl, hj.size, heap_alloc_new _ _⟩)⟩
          · have e1 : isOwnS W0.heap.size parts (a'.eval (.tmp 31)) wk := hd ⟨1, .data⟩ (by simp) rfl (by intro j _ hc; revert hc; unfold fbCons; simp; try omega)
            have e4 : isLitS W0.heap.size t (a'.eval (.tmp 34)) wk := hd ⟨4, .data⟩ (by simp) rfl (by intro j _ hc; revert hc; unfold fbCons; simp; try omega)
            obtain ⟨b4, v4, hb4, hh4⟩ := e4
            obtain ⟨i0, hi0, hz0, hz1, hz2⟩ := info_parts info_string
            refine wp_cat (enc := encS) wk (.tmp 31) (.tmp 34) 28 rfl W0.heap.size 9 i0 _ 1 16 Tryz.underlying28 hi0 hz0 hz1 hz2 rfl (by decide) (a'.eval (.tmp 31)) (.slice (some ⟨b4, 0, none⟩) 1 1) parts [t] rfl v4 e1 _ (lit_rdS hh4) (by simp [Value.oneCell']) (by have := HPL.out; simp <;> omega) (by decide) hj.size ?_
            intro v' w' ho hg hg'
            exact ⟨_, rfl, hj.grown hg hj.size (fun g hg1 => (Own.lt e1 g hg1).1), .inr (.inr rfl), (show isOwnS _ _ _ _ from ho)⟩
          · have e5 : isOwnS W0.heap.size (parts ++ [t]) (a'.eval (.tmp 35)) wk := hd ⟨5, .data⟩ (by simp) rfl (by intro j _ hc; revert hc; unfold fbCons; simp; try omega)
            exact iv_val (v := a'.eval (.tmp 35)) (by simp [execOp]) ⟨_, rfl, hj, .inl rfl, e5⟩
        case fin =>
          intro tm w9 hj hF
          have o15 : OwnS w9 W0.heap.size (tm.getD 12 undef) (parts ++ [t]) := hF 6 _ rfl (fun j => by unfold fbCons; simp)
          clear hF
          simp only [refillL, List.setIfInBounds_toArray, List.set_cons_succ, List.set_cons_zero]
          obtain ⟨wv, hwv⟩ : ∃ wv, tm.getD 12 undef = wv := ⟨_, rfl⟩
          rw [hwv] at o15 ⊢
          clear hwv
          have O15 := hid o15
          have hec9 := (hj.cell (p := ⟨eb, 1, none⟩) hebl).trans hec1
          have HSZ9 := hid hj.size
          have d9 := bl_then hbW hj
          have OUT9 := hid (HOUT.out.on hj)
          clear o15 hj hec0 hec1
          have W9 := hid (Rd.of_own O15.out)
          go_wp2_with fail
          refine (impl_fileOf_c _ xs r _ (HP.out _ (bl_then HD2.out d9)) hs).mono ?_
          rw [HFI.out]
          rintro e w10 ⟨rfl, b10⟩
          have d10 := bl_then d9 b10
          have OUT10 := hid (OUT9.out.on b10)
          have W10 := hid (W9.out.on b10)
          have hec10 := (b10.cell (p := ⟨eb, 1, none⟩) (Nat.lt_of_lt_of_le hebl HSZ9.out)).trans hec9
          clear b10 OUT9 W9 O15 hec9
          cases fi
          · have HST := hid (show fileStep xs k parts ⟨t, r⟩ = belowF xs k r (parts ++ [t]) by unfold fileStep; rw [if_neg (by rw [HFI.out]; simp)])
            go_wp2_with fail
            refine (ih _ _ r (parts ++ [t]) _ (by simp; omega) (HP.out _ (bl_then HD2.out d10)) W10.out (HG.out.on (bl_then HD2.out d10))).mono ?_
            rintro e w11 ⟨rv, rfl, o11, b11⟩
            have d11 := bl_then d10 b11
            have OUT11 := OUT10.out.on b11
            have R11 := Rd.of_own o11
            have hB11 := d11.size
            have HLE := hid (show (belowF xs k r (parts ++ [t])).length ≤ 9 by rw [← HST.out]; exact step_len xs (by omega) parts _)
            clear b11 o11 d10
            go_wp2_with (at_builtin; refine cat_str (w0 := w2) rfl _ _ rfl w2.heap.size w2.heap.size _ _ _ _ OUT11 _ R11 d11 hB11 (Nat.le_refl _) rfl rfl (by have := HLE.out; omega) ?_; intro v' w' hown' hb' hB' _)
            go_roundw
            case rel => exact ⟨j + 1, _, by omega, by go_num, hown', hid (by rw [HACC.out, ← HST.out]), by simp only [List.length_append]; have := HLE.out; omega, hb'⟩
            case measure => simp [intOf]; omega
          · obtain ⟨jn, hjn0⟩ : ∃ jn, strL (joinP ((parts ++ [t]).map bs)) = jn := ⟨_, rfl⟩
            have HJN := hid hjn0
            have HST := hid (show fileStep xs k parts ⟨t, r⟩ = [jn] by unfold fileStep; rw [if_pos HFI.out, hjn0])
            clear hjn0
            go_wp2_with fail
            refine (impl_JoinPath_c _ (parts ++ [t]) _ W10.out (by have := HPL.out; simp; omega)).mono ?_
            rw [HJN.out]
            rintro e w11 ⟨rfl, b11⟩
            have d11 := bl_then d10 b11
            have OUT11 := OUT10.out.on b11
            have hB11 := d11.size
            clear b11 d10
            go_wp2_with (at_builtin; refine push_str (w0 := w2) rfl _ _ rfl w2.heap.size w2.heap.size _ _ _ OUT11 d11 hB11 (Nat.le_refl _) rfl rfl (by omega) ?_; intro v' w' hown' hb' hB' _)
            go_roundw
            case rel => exact ⟨j + 1, _, by omega, by go_num, hown', hid (by rw [HACC.out, ← HST.out]), by simp only [List.length_append, List.length_singleton]; omega, hb'⟩
            case measure => simp [intOf]; omega
      · have HA := hid (show acc = belowF xs (k + 1) pr parts by rw [HB.out, hacc.out, take_all HN.out (show n ≤ j by omega)])
        have d3 := bl_then HD2.out hb
        go_wp2
        go_ret
        exact ⟨_, rfl, by rw [← HA.out]; exact hown.less s2, d3⟩

set_option maxHeartbeats 2000000 in
set_option maxRecDepth 100000 in
theorem impl_AllFiles_c (v : Value) (xs : List Pc) (root : Int) (w : World) (h : Pcs w w.heap.size v xs) (hg : Glob w) :
    Calls Tryz.prog 38 #[v, .int .i64 root] w fun e w' => ∃ v', e = .returned v' ∧ OwnS w' w.heap.size v' (allFiles xs root) ∧ Below w.heap.size w w' := by
  have HH := hid h
  have HG := hid hg
  obtain ⟨k, hk⟩ : ∃ k, storeOk xs = k := ⟨_, rfl⟩
  have HK := hid hk
  clear h hg hk
  cases k
  · have HO := hid (allFiles_off (root := root) HK.out)
    go_enter Tryz.func38, Tryz.ntmps38
    go_wp2_with fail
    refine (impl_StoreValid_c _ xs _ HH.out).mono ?_
    rw [HK.out]
    rintro e w2 ⟨rfl, b2⟩
    go_wp2
    go_ret
    exact ⟨_, rfl, by rw [HO.out]; exact Own.nil_, b2⟩
  · have HO := hid (allFiles_on (root := root) HK.out)
    go_enter Tryz.func38, Tryz.ntmps38
    go_wp2_with fail
    refine (impl_StoreValid_c _ xs _ HH.out).mono ?_
    rw [HK.out]
    rintro e w2 ⟨rfl, b2⟩
    have s2 := b2.size
    go_wp2_with fail
    refine (impl_filesBelow_c xs HK.out 3 _ _ root [] _ rfl (HH.out.on b2) (Rd.nil _ _ _ 0 none (Nat.zero_le _)) (HG.out.on b2)).mono ?_
    rintro e w3 ⟨rv, rfl, o3, b3⟩
    have d3 := bl_then b2 b3
    go_wp2
    go_ret
    exact ⟨_, rfl, by rw [HO.out]; exact o3.less s2, d3⟩

end Go.Proofs.YtachfmlfmpaddaaGreatDoor

/- What is there or not can be proved; swept and synced stores keep files: in plain Lean. No program in sight. -/
namespace Go.Proofs.YtachfmlfmpaddaaGreatDoor
open Go.RowKit

/-! ### FnProofOrAbsence -/
/-! ### What roots reach keeps its files -/
/-- keepsFiles, as a law asks it. -/
def Keeps (s x : List Pc) (root : Int) : Prop := ∀ p ∈ allFiles s root, (readAt x root (bs p)).2 = true ∧ (readAt x root (bs p)).1 = (readAt s root (bs p)).1
theorem keeps_le {s x : List Pc} {root : Int} (h : Le s x) (hs : storeOk s = true) (hx : storeOk x = true) : Keeps s x root := by
  intro p hp
  obtain ⟨_, _, _, _, _, _, hr⟩ := among_read hp
  rw [read_le h hs hx hr]
  exact ⟨hr, rfl⟩
/-! ### FnSweepStore -/
/-! ### FnSyncRoot -/
end Go.Proofs.YtachfmlfmpaddaaGreatDoor
