/- Walks and plain facts, joined: WrI, DrawWr. -/
import Derived.Test.YtachfmlfmpaddaaGreatDoorMg5
import Derived.Test.YtachfmlfmpaddaaGreatDoorMg19
import Derived.Test.YtachfmlfmpaddaaGreatDoorMg30
import Derived.Test.YtachfmlfmpaddaaGreatDoorMg32
import Derived.Test.YtachfmlfmpaddaaGreatDoorMg33
import Derived.Test.YtachfmlfmpaddaaGreatDoorMg38
set_option linter.unusedVariables false
set_option linter.unusedSimpArgs false

/- Walks: folders on the way, the program's way. -/
namespace Go.Proofs.YtachfmlfmpaddaaGreatDoor
open Go.RowKit

def noCons (_ _ : Nat) : Bool := false
def isTupE (B : Nat) (xs : List Ent) (ok : Bool) : Value → World → Prop := fun v w => ∃ lv, v = .tuple #[lv, .bool ok] ∧ OwnE w B lv xs
theorem way_step {s : List Pc} {q : Option Int} {nm : ByteArray} {r : List ByteArray} {es : List Ent} (h : folderQ s q = some es) : wayW s q (nm :: r) = (wayW s (firstOf es nm) r).map fun P => (es :: P.1, P.2) := by
  conv => lhs; unfold wayW
  rw [h]
  simp only []
  cases wayW s (firstOf es nm) r with
  | none => rfl
  | some P => rfl
theorem way_stop {s : List Pc} {q : Option Int} {nm : ByteArray} {r : List ByteArray} (h : folderQ s q = none) : wayW s q (nm :: r) = none := by unfold wayW; rw [h]
/-- The folders on the way of a file that can be written. -/
noncomputable def foldW (xs : List Pc) (root : Int) (parts : List ByteArray) : Option (List (List Ent)) := match wayW xs (some root) parts with
  | some (F, z) => if leafOk xs z = true then some F else none
  | none => none

set_option maxHeartbeats 2000000 in
set_option maxRecDepth 100000 in
theorem impl_foldersToWrite_c (v pv : Value) (xs : List Pc) (root : Int) (parts : List ByteArray) (w : World) (X : Option (List (List Ent))) (hX : foldW xs root parts = X) (h : Pcs w w.heap.size v xs) (hs : storeOk xs = true) (hp : Strs w w.heap.size pv parts) (hl : parts.length ≤ 1000) (hg : Glob w) :
    Calls Tryz.prog 98 #[v, .int .i64 root, pv] w fun e w' => ∃ v', e = .returned (.tuple #[v', .bool X.isSome]) ∧ FoldsOn w' w.heap.size v' (X.getD []) ∧ Below w.heap.size w w' := by
  obtain ⟨m, hm⟩ : ∃ m, parts.length = m := ⟨_, rfl⟩
  obtain ⟨pa, pc, rfl, _, _, hp3⟩ := hp.strs hm
  have HP : Hid (∀ wx, Below w.heap.size w wx → Pcs wx wx.heap.size v xs) := hid fun wx hx => h.on hx
  have HG : Hid (∀ wx, Below w.heap.size w wx → Glob wx) := hid fun wx hx => hg.on hx
  have HP3 := hid hp3
  have HM := hid hm
  have HS := hid hs
  have HX := hid hX
  have hm1 : m ≤ 1000 := by omega
  clear h hs hp hg hp3 hm hX hl
  go_enter Tryz.func98, Tryz.ntmps98
  go_wp2
  go_loopw [8, 9, 10, 12, 13, 14, 15, 21] (fun fv0 at_ th _ _ _ _ iv wr => ∃ (fv : Value) (k : Nat) (q : Option Int) (acc : List (List Ent)), fv = fv0 ∧ k ≤ m ∧ iv = .int .i64 k ∧ at_ = .int .i64 (q.getD (-1)) ∧ th = .bool q.isSome ∧ FoldsOn wr w.heap.size fv acc ∧ Hid ((wayW xs q (parts.drop k)).map (fun P => (acc ++ P.1, P.2)) = wayW xs (some root) parts) ∧ acc.length ≤ k ∧ Below w.heap.size w wr) (fun _ _ _ _ _ _ _ iv _ => m - (intOf iv).toNat)
  case atStart => exact ⟨_, 0, some root, [], rfl, Nat.zero_le _, rfl, rfl, rfl, FoldsOn.nil _ _, hid (by simp), by simp, Below.refl _ _⟩
  case round =>
    obtain ⟨fv, k, q, acc, rfl, hk, rfl, rfl, rfl, hown, hway, hlen, hb⟩ := hrel
    by_cases hlt : k < m
    · obtain ⟨b, o, nm, rfl, hbl, hx, k0⟩ := HP3.out k hlt
      have j0 := (hb.cell (p := ⟨b, o + k, none⟩) hbl).trans k0
      have hkm : (k : Int) < m := by omega
      have HW := hid (show (wayW xs q (nm :: parts.drop (k + 1))).map (fun P => (acc ++ P.1, P.2)) = wayW xs (some root) parts by rw [← drop_cons hx.out]; exact hway.out)
      have hB := hb.size
      clear k0 hway
      cases q with
      | none =>
        have HNX := hid (show (wayW xs none (parts.drop (k + 1))).map (fun P => ((acc ++ [[]]) ++ P.1, P.2)) = wayW xs (some root) parts by
          rw [← HW.out, way_step (es := []) rfl, Option.map_map]
          congr 1
          funext P; simp)
        go_wp2_with (first | (at_builtin; refine push_folds (w0 := w) rfl _ _ rfl w.heap.size w.heap.size _ (.slice none 0 0) acc [] hown Own.nil_ (.inl rfl) hb hB (Nat.le_refl _) rfl rfl (by omega) ?_; intro v' w' hown' hb' hB' hg' hl') | fail)
        refine (impl_printNamed_c _ [] nm _ none rfl (Rd.of_own hl') rfl).mono ?_
        rintro e w8 ⟨rfl, b8⟩
        have d8 := bl_then hb' b8
        have own8 := hown'.on b8
        clear b8
        go_wp2
        go_roundw
        case rel => exact ⟨_, k + 1, none, _, rfl, by omega, by go_num, rfl, rfl, own8, HNX, by simp; omega, d8⟩
        case measure => simp [intOf]; omega
      | some p =>
        obtain ⟨F, hF⟩ : ∃ F, folderAt xs p = F := ⟨_, rfl⟩
        have HF := hid hF
        clear hF
        go_wp2_with fail
        refine (impl_folderOf_c _ xs p _ F HF.out (HP.out _ hb) HS.out (HG.out _ hb)).mono ?_
        rintro e w5 ⟨lv, rfl, o5, b5⟩
        have d5 := bl_then hb b5
        have own5 := hown.on b5
        have hlt5 := hid hown.lt
        clear b5
        cases F with
        | none =>
          obtain rfl : X = none := by
            rw [← HX.out]
            unfold foldW
            rw [← HW.out, way_stop (q := some p) HF.out]; rfl
          clear o5 own5 hown
          go_wp2
          go_ret2
          exact ⟨_, rfl, FoldsOn.nil _ _, d5⟩
        | some es =>
          have HNX := hid (show (wayW xs (firstOf es nm) (parts.drop (k + 1))).map (fun P => ((acc ++ [es]) ++ P.1, P.2)) = wayW xs (some root) parts by
            rw [← HW.out, way_step (q := some p) HF.out, Option.map_map]
            congr 1
            funext P; simp)
          have HEO := hid (folderAt_ok HF.out)
          obtain ⟨n3, hn3⟩ : ∃ n3, es.length = n3 := ⟨_, rfl⟩
          obtain ⟨la, lc, rfl, _, _, _⟩ := (Rd.of_own o5).ents (show ((some es).getD []).length = n3 from hn3)
          have hB5 := d5.size
          have hne : Value.ownBlock (.slice la n3 lc) = none ∨ Value.ownBlock (.slice la n3 lc) ≠ Value.ownBlock fv := by
            cases hv : Value.ownBlock (.slice la n3 lc) with
            | none => exact .inl rfl
            | some g => exact .inr (fun e => by have h1 := (o5.lt g hv).1; have h2 := (hlt5.out g e.symm).2; omega)
          have o5' := o5.less hB
          obtain ⟨Q, hQ⟩ : ∃ Q, firstOf es nm = Q := ⟨_, rfl⟩
          have HQ := hid hQ
          rw [hQ] at HNX
          clear hQ hn3 o5 hown
          go_wp2_with (first | (at_builtin; refine push_folds (w0 := w) rfl _ _ rfl w.heap.size w.heap.size _ _ acc es own5 o5' hne d5 hB5 (Nat.le_refl _) rfl rfl (by omega) ?_; intro v' w' hown' hb' hB' hg' hl') | fail)
          refine (impl_printNamed_c _ es nm _ Q HQ.out (Rd.of_own hl') HEO.out).mono ?_
          rintro e w8 ⟨rfl, b8⟩
          have d8 := bl_then hb' b8
          have own8 := hown'.on b8
          clear b8
          go_wp2
          go_roundw
          case rel => exact ⟨_, k + 1, Q, _, rfl, by omega, by go_num, rfl, rfl, own8, HNX, by simp; omega, d8⟩
          case measure => simp [intOf]; omega
    · have HWE := hid (show wayW xs (some root) parts = some (acc, q) by
        rw [← hway.out, List.drop_of_length_le (by have := HM.out; omega)]
        unfold wayW; simp)
      clear hway
      cases q with
      | none =>
        obtain rfl : X = some acc := by rw [← HX.out]; unfold foldW; rw [HWE.out]; rfl
        go_wp2
        go_ret2
        exact ⟨_, rfl, hown, hb⟩
      | some c =>
        obtain ⟨fi, hfi⟩ : ∃ fi, isFile (textAt xs c) = fi := ⟨_, rfl⟩
        have HFI := hid hfi
        have hlk : leafOk xs (some c) = fi := by
          show (hasP xs c && isFile (textAt xs c)) = fi
          rw [hfi]
          cases fi
          · rw [Bool.and_false]
          · rw [file_has hfi]; rfl
        have HN := hid (show X = if fi then some acc else none by
          rw [← HX.out]; unfold foldW; rw [HWE.out]
          simp only [hlk])
        clear hlk
        clear hfi
        go_wp2_with fail
        refine (impl_fileOf_c _ xs c _ (HP.out _ hb) HS.out).mono ?_
        rw [HFI.out]
        rintro e w5 ⟨rfl, b5⟩
        have d5 := bl_then hb b5
        have own5 := hown.on b5
        cases fi
        · obtain rfl : X = none := HN.out
          go_wp2
          go_ret2
          exact ⟨_, rfl, FoldsOn.nil _ _, d5⟩
        · obtain rfl : X = some acc := HN.out
          go_wp2
          go_ret2
          exact ⟨_, rfl, own5, d5⟩

set_option maxHeartbeats 2000000 in
set_option maxRecDepth 100000 in
theorem impl_foldersToDrop_c (v pv : Value) (xs : List Pc) (root : Int) (parts : List ByteArray) (w : World) (E : List (List Ent)) (hE : (wayD xs root parts).map (·.1) = E) (h : Pcs w w.heap.size v xs) (hs : storeOk xs = true) (hp : Strs w w.heap.size pv parts) (hl : parts.length ≤ 1000) (hg : Glob w) :
    Calls Tryz.prog 93 #[v, .int .i64 root, pv] w fun e w' => ∃ v', e = .returned v' ∧ FoldsOn w' w.heap.size v' E ∧ Below w.heap.size w w' := by
  obtain ⟨m, hm⟩ : ∃ m, parts.length = m := ⟨_, rfl⟩
  obtain ⟨pa, pc, rfl, _, _, hp3⟩ := hp.strs hm
  have HP : Hid (∀ wx, Below w.heap.size w wx → Pcs wx wx.heap.size v xs) := hid fun wx hx => h.on hx
  have HG : Hid (∀ wx, Below w.heap.size w wx → Glob wx) := hid fun wx hx => hg.on hx
  have HP3 := hid hp3
  have HM := hid hm
  have HS := hid hs
  have HE := hid hE
  have hm1 : m ≤ 1000 := by omega
  clear h hs hp hg hp3 hm hE hl
  go_enter Tryz.func93, Tryz.ntmps93
  go_wp2
  go_loopw [7, 8, 10, 11, 12, 16] (fun fv0 at_ _ _ _ iv wr => ∃ (fv : Value) (k : Nat) (y : Int) (acc : List (List Ent)), fv = fv0 ∧ k ≤ m ∧ iv = .int .i64 k ∧ at_ = .int .i64 y ∧ FoldsOn wr w.heap.size fv acc ∧ Hid (acc ++ (wayD xs y (parts.drop k)).map (·.1) = E) ∧ acc.length ≤ k ∧ Below w.heap.size w wr) (fun _ _ _ _ _ iv _ => m - (intOf iv).toNat)
  case atStart => exact ⟨_, 0, root, [], rfl, Nat.zero_le _, rfl, rfl, FoldsOn.nil _ _, hid (by rw [← HE.out]; simp), by simp, Below.refl _ _⟩
  case round =>
    obtain ⟨fv, k, y, acc, rfl, hk, rfl, rfl, hown, hway, hlen, hb⟩ := hrel
    by_cases hlt : k < m
    · obtain ⟨b, o, nm, rfl, hbl, hx, k0⟩ := HP3.out k hlt
      have j0 := (hb.cell (p := ⟨b, o + k, none⟩) hbl).trans k0
      have hkm : (k : Int) < m := by omega
      have HW := hid (show acc ++ (wayD xs y (nm :: parts.drop (k + 1))).map (·.1) = E by rw [← drop_cons hx.out]; exact hway.out)
      have hB := hb.size
      obtain ⟨F, hF⟩ : ∃ F, folderAt xs y = F := ⟨_, rfl⟩
      have HF := hid hF
      obtain ⟨es, hes⟩ : ∃ es, F.getD [] = es := ⟨_, rfl⟩
      have HES := hid (show entsOf (textAt xs y) = es by rw [entsOf_at, hF, hes])
      have HES2 := hid hes
      clear k0 hway hF hes
      go_wp2_with fail
      refine (impl_folderOf_c _ xs y _ F HF.out (HP.out _ hb) HS.out (HG.out _ hb)).mono ?_
      rw [HES2.out]
      rintro e w5 ⟨lv, rfl, o5, b5⟩
      have d5 := bl_then hb b5
      have own5 := hown.on b5
      have hlt5 := hid hown.lt
      have HEO := hid (show entsOk es = true by rw [← HES.out]; exact entsOf_ok _)
      obtain ⟨n3, hn3⟩ : ∃ n3, es.length = n3 := ⟨_, rfl⟩
      obtain ⟨la, lc, rfl, _, _, _⟩ := (Rd.of_own o5).ents hn3
      have hB5 := d5.size
      have hne : Value.ownBlock (.slice la n3 lc) = none ∨ Value.ownBlock (.slice la n3 lc) ≠ Value.ownBlock fv := by
        cases hv : Value.ownBlock (.slice la n3 lc) with
        | none => exact .inl rfl
        | some g => exact .inr (fun e => by have h1 := (o5.lt g hv).1; have h2 := (hlt5.out g e.symm).2; omega)
      have o5' := o5.less hB
      obtain ⟨Q, hQ⟩ : ∃ Q, firstOf es nm = Q := ⟨_, rfl⟩
      have HQ := hid hQ
      have HNX := hid (show (acc ++ [es]) ++ (wayD xs (Q.getD (-1)) (parts.drop (k + 1))).map (·.1) = E by
        rw [← HW.out]
        simp only [wayD, HES.out, hQ, List.map_cons, List.append_assoc, List.singleton_append])
      clear hQ hn3 o5 hown b5
      go_wp2_with (first | (at_builtin; refine push_folds (w0 := w) rfl _ _ rfl w.heap.size w.heap.size _ _ acc es own5 o5' hne d5 hB5 (Nat.le_refl _) rfl rfl (by omega) ?_; intro v' w' hown' hb' hB' hg' hl') | fail)
      refine (impl_printNamed_c _ es nm _ Q HQ.out (Rd.of_own hl') HEO.out).mono ?_
      rintro e w8 ⟨rfl, b8⟩
      have d8 := bl_then hb' b8
      have own8 := hown'.on b8
      clear b8
      go_wp2
      go_roundw
      case rel => exact ⟨_, k + 1, _, _, rfl, by omega, by go_num, rfl, own8, HNX, by simp; omega, d8⟩
      case measure => simp [intOf]; omega
    · have HA := hid (show acc = E by
        rw [← hway.out, List.drop_of_length_le (by have := HM.out; omega)]
        simp [wayD])
      go_wp2
      go_ret
      exact ⟨_, rfl, by rw [← HA.out]; exact hown, hb⟩

set_option maxHeartbeats 2000000 in
set_option maxRecDepth 100000 in
theorem impl_putFolders_c (v fv nv : Value) (xs : List Pc) (E : List (List Ent)) (parts : List ByteArray) (pr : Int) (w : World) (R : Option (List Pc × Int)) (hR : backTo xs (E.zip parts) pr = R) (h : Pcs w w.heap.size v xs) (hf : Folds w w.heap.size fv E) (hn : Strs w w.heap.size nv parts) (hl : E.length ≤ parts.length) (hl2 : parts.length ≤ 1000) (hns : ∀ x ∈ parts, x.size ≤ 1048576) (hg : Glob w) :
    Calls Tryz.prog 97 #[v, fv, nv, .int .i64 pr] w fun e w' => ∃ v', e = .returned (.tuple #[v', .int .i64 ((R.map (·.2)).getD (-1)), .bool R.isSome]) ∧ Pcs w' w'.heap.size v' ((R.map (·.1)).getD []) ∧ Below w.heap.size w w' := by
  obtain ⟨m, hm⟩ : ∃ m, parts.length = m := ⟨_, rfl⟩
  obtain ⟨n, hn1⟩ : ∃ n, E.length = n := ⟨_, rfl⟩
  obtain ⟨fa, fc, rfl, _, _, hf3⟩ := hf.openN hn1
  obtain ⟨pa, nc, rfl, _, _, hp3⟩ := hn.strs hm
  have HF3 := hid hf3
  have HP3 := hid hp3
  have HM := hid hm
  have HN1 := hid hn1
  have HG := hid hg
  have HR := hid hR
  have HNS := hid hns
  have HH := hid h
  have hnm : n ≤ m := by omega
  have hm1 : m ≤ 1000 := by omega
  have hw1 : IntKind.i64.wrap ((n : Int) - 1) = (n : Int) - 1 := IntWalk.i64_in _ (by omega)
  have HZL := hid (show (E.zip parts).length = n by rw [List.length_zip, hn1, hm]; omega)
  clear h hf hn hg hf3 hp3 hm hn1 hR hl hl2 hns
  go_enter Tryz.func97, Tryz.ntmps97
  go_wp2
  go_loopw [0, 3, 11, 12, 13] (fun sv pv iv _ _ wr => ∃ (k : Nat) (s1 : List Pc) (ch i : Int), k ≤ n ∧ iv = .int .i64 i ∧ i = (k : Int) - 1 ∧ pv = .int .i64 ch ∧ Hid (Pcs wr wr.heap.size sv s1) ∧ Hid (backTo xs ((E.zip parts).drop k) pr = some (s1, ch)) ∧ Below w.heap.size w wr) (fun _ _ iv _ _ _ => (intOf iv + 1).toNat)
  case atStart => exact ⟨n, xs, pr, (n : Int) - 1, Nat.le_refl _, by first | rfl | (rw [hw1]), rfl, rfl, HH, hid (by rw [List.drop_of_length_le (by have := HZL.out; omega)]; rfl), Below.refl _ _⟩
  case round =>
    obtain ⟨k, s1, ch, i, hk, rfl, hi, rfl, hsv, hbk, hb⟩ := hrel
    by_cases hk0 : 0 < k
    · obtain ⟨j, rfl⟩ : ∃ j, k = j + 1 := ⟨k - 1, by omega⟩
      obtain rfl : i = (j : Int) := by omega
      clear hi
      have hjn : (j : Int) < n := by omega
      have hjm : (j : Int) < m := by omega
      have hj0 : (0 : Int) ≤ (j : Int) := by omega
      have hw2 : IntKind.i64.wrap ((j : Int) - 1) = (j : Int) - 1 := IntWalk.i64_in _ (by omega)
      obtain ⟨fb, fo, lv, es, rfl, hfb, hes, hfc0, hle⟩ := HF3.out j (by omega)
      obtain ⟨nb, no, nm, rfl, hnb, hnmx, hnc0⟩ := HP3.out j (by omega)
      have hx : (E.zip parts)[j]? = some (es, nm) := by rw [List.getElem?_zip_eq_some]; exact ⟨hes.out, hnmx.out⟩
      have HNL := hid (HNS.out nm (List.mem_of_getElem? hnmx.out))
      go_wp2
      refine drew_out wr ⟨0, rfl⟩ ?_
      rintro W0 ⟨z00, hW0⟩
      have hw0 : Below wr.heap.size wr W0 := by rw [hW0]; exact bl_drewN (Below.refl _ _) z00
      have d0 := bl_then hb hw0
      have HSW := hid (hsv.out.on hw0)
      have HLV := hid (Rd.on hle d0)
      have hfbl : fb < W0.heap.size := Nat.lt_of_lt_of_le hfb d0.size
      have hnbl : nb < W0.heap.size := Nat.lt_of_lt_of_le hnb d0.size
      have hfc := (d0.cell (p := ⟨fb, fo + j, none⟩) hfb).trans hfc0
      have hnc2 := (d0.cell (p := ⟨nb, no + j, none⟩) hnb).trans hnc0
      clear hW0 hw0 hsv hle hfc0 hnc0
      refine wp_region_inv3e rfl (by kernel_rfl) (by kernel_rfl) (by kernel_rfl) (by kernel_rfl) (by simp) (fun _ w' => Below W0.heap.size W0 w') (fun j w' w'' => w' = w'' ∨ Below w'.heap.size w' w'') (fact [isV (.slice (some ⟨fb, fo, none⟩) n fc), isV (.int .i64 j), isV (.pointer (some ⟨fb, fo + j, none⟩)), isV lv, isV (.slice (some ⟨nb, no, none⟩) m nc), isV (.int .i64 j), isV (.pointer (some ⟨nb, no + j, none⟩)), isV (.string nm), isV (.int .i64 ch), isV (.agg #[.string nm, .int .i64 ch]), isTupE W0.heap.size (putEnt es ⟨nm, ch⟩).1 (putEnt es ⟨nm, ch⟩).2, isTupE W0.heap.size (putEnt es ⟨nm, ch⟩).1 (putEnt es ⟨nm, ch⟩).2, isOwnE W0.heap.size (putEnt es ⟨nm, ch⟩).1, isV (.bool (putEnt es ⟨nm, ch⟩).2), isOwnE W0.heap.size (putEnt es ⟨nm, ch⟩).1, isV (.bool (putEnt es ⟨nm, ch⟩).2)]) noCons (Below.refl _ _).drew ?hF ?grd ?oo ?cg ?fin
      case hF =>
        intro j i v w' w'' hS hc hne hwt hdp hf
        have hi : i < 16 ∨ 16 ≤ i := by omega
        rcases hi with hi | hi
        · obtain rfl | rfl | rfl | rfl | rfl | rfl | rfl | rfl | rfl | rfl | rfl | rfl | rfl | rfl | rfl | rfl : i = 0 ∨ i = 1 ∨ i = 2 ∨ i = 3 ∨ i = 4 ∨ i = 5 ∨ i = 6 ∨ i = 7 ∨ i = 8 ∨ i = 9 ∨ i = 10 ∨ i = 11 ∨ i = 12 ∨ i = 13 ∨ i = 14 ∨ i = 15 := by omega
          · exact hf
          · exact hf
          · exact hf
          · exact hf
          · exact hf
          · exact hf
          · exact hf
          · exact hf
          · exact hf
          · exact hf
          · rcases hS with rfl | hb9
            · exact hf
            · obtain ⟨lw, h1, h2⟩ := hf; exact ⟨lw, h1, h2.on hb9⟩
          · rcases hS with rfl | hb9
            · exact hf
            · obtain ⟨lw, h1, h2⟩ := hf; exact ⟨lw, h1, h2.on hb9⟩
          · rcases hS with rfl | hb9
            · exact hf
            · exact Own.on hf hb9
          · exact hf
          · rcases hS with rfl | hb9
            · exact hf
            · exact Own.on hf hb9
          · exact hf
        · unfold fact at *; rw [List.getD_eq_getElem?_getD, List.getElem?_eq_none (by simpa using hi)]; trivial
      case grd =>
        intro i oo d bb hi hg v w' hf
        obtain ⟨hlt1, rfl⟩ := Array.getElem?_eq_some_iff.1 hi
        have hlt' : i < 16 := hlt1
        clear hi
        obtain rfl | rfl | rfl | rfl | rfl | rfl | rfl | rfl | rfl | rfl | rfl | rfl | rfl | rfl | rfl | rfl : i = 0 ∨ i = 1 ∨ i = 2 ∨ i = 3 ∨ i = 4 ∨ i = 5 ∨ i = 6 ∨ i = 7 ∨ i = 8 ∨ i = 9 ∨ i = 10 ∨ i = 11 ∨ i = 12 ∨ i = 13 ∨ i = 14 ∨ i = 15 := by omega
        all_goals simp at hg
      case cg =>
        intro i oo d bb hi hg j
        obtain ⟨hlt1, rfl⟩ := Array.getElem?_eq_some_iff.1 hi
        have hlt' : i < 16 := hlt1
        clear hi
        obtain rfl | rfl | rfl | rfl | rfl | rfl | rfl | rfl | rfl | rfl | rfl | rfl | rfl | rfl | rfl | rfl : i = 0 ∨ i = 1 ∨ i = 2 ∨ i = 3 ∨ i = 4 ∨ i = 5 ∨ i = 6 ∨ i = 7 ∨ i = 8 ∨ i = 9 ∨ i = 10 ∨ i = 11 ∨ i = 12 ∨ i = 13 ∨ i = 14 ∨ i = 15 := by omega
        all_goals simp at hg
      case oo =>
        intro i oo hi qn a' wk hnn hj hb' hd
        obtain ⟨hlt1, rfl⟩ := Array.getElem?_eq_some_iff.1 hi
        have hlt' : i < 16 := hlt1
        clear hi
        obtain rfl | rfl | rfl | rfl | rfl | rfl | rfl | rfl | rfl | rfl | rfl | rfl | rfl | rfl | rfl | rfl : i = 0 ∨ i = 1 ∨ i = 2 ∨ i = 3 ∨ i = 4 ∨ i = 5 ∨ i = 6 ∨ i = 7 ∨ i = 8 ∨ i = 9 ∨ i = 10 ∨ i = 11 ∨ i = 12 ∨ i = 13 ∨ i = 14 ∨ i = 15 := by omega
        · have b1 : a'.eval (.tmp 1) = .slice (some ⟨fb, fo, none⟩) n fc := hb' 1 (by kernel_rfl); have c1 := ev_get b1
          exact iv_val (v := .slice (some ⟨fb, fo, none⟩) n fc) (by simp [execOp, b1]) ⟨_, rfl, hj, .inl rfl, rfl⟩
        · have b11 : a'.eval (.tmp 11) = .int .i64 j := hb' 11 (by kernel_rfl); have c11 := ev_get b11
          exact iv_val (v := .int .i64 j) (by simp [execOp, b11]) ⟨_, rfl, hj, .inl rfl, rfl⟩
        · have v0 : a'.eval (.tmp 22) = .slice (some ⟨fb, fo, none⟩) n fc := hd ⟨0, .data⟩ (by simp) rfl (by intro j _ hc; revert hc; unfold noCons; simp; try omega); have u0 := ev_get v0
          have v1 : a'.eval (.tmp 23) = .int .i64 j := hd ⟨1, .data⟩ (by simp) rfl (by intro j _ hc; revert hc; unfold noCons; simp; try omega); have u1 := ev_get v1
          exact iv_val (v := .pointer (some ⟨fb, fo + j, none⟩)) (by simp [execOp, u0, u1, hjn, go_sem, Result.andThen]) ⟨_, rfl, hj, .inl rfl, rfl⟩
        · have v2 : a'.eval (.tmp 24) = .pointer (some ⟨fb, fo + j, none⟩) := hd ⟨2, .data⟩ (by simp) rfl (by intro j _ hc; revert hc; unfold noCons; simp; try omega); have u2 := ev_get v2
          have xk := (hj.cell (p := ⟨fb, fo + j, none⟩) hfbl).trans hfc
          exact iv_val (v := lv) (by simp [execOp, u2, xk, go_sem, Result.andThen]) ⟨_, rfl, hj, .inl rfl, rfl⟩
        · have b2 : a'.eval (.tmp 2) = .slice (some ⟨nb, no, none⟩) m nc := hb' 2 (by kernel_rfl); have c2 := ev_get b2
          exact iv_val (v := .slice (some ⟨nb, no, none⟩) m nc) (by simp [execOp, b2]) ⟨_, rfl, hj, .inl rfl, rfl⟩
        · have b11 : a'.eval (.tmp 11) = .int .i64 j := hb' 11 (by kernel_rfl); have c11 := ev_get b11
          exact iv_val (v := .int .i64 j) (by simp [execOp, b11]) ⟨_, rfl, hj, .inl rfl, rfl⟩
        · have v4 : a'.eval (.tmp 26) = .slice (some ⟨nb, no, none⟩) m nc := hd ⟨4, .data⟩ (by simp) rfl (by intro j _ hc; revert hc; unfold noCons; simp; try omega); have u4 := ev_get v4
          have v5 : a'.eval (.tmp 27) = .int .i64 j := hd ⟨5, .data⟩ (by simp) rfl (by intro j _ hc; revert hc; unfold noCons; simp; try omega); have u5 := ev_get v5
          exact iv_val (v := .pointer (some ⟨nb, no + j, none⟩)) (by simp [execOp, u4, u5, hjm, go_sem, Result.andThen]) ⟨_, rfl, hj, .inl rfl, rfl⟩
        · have v6 : a'.eval (.tmp 28) = .pointer (some ⟨nb, no + j, none⟩) := hd ⟨6, .data⟩ (by simp) rfl (by intro j _ hc; revert hc; unfold noCons; simp; try omega); have u6 := ev_get v6
          have xk := (hj.cell (p := ⟨nb, no + j, none⟩) hnbl).trans hnc2
          exact iv_val (v := .string nm) (by simp [execOp, u6, xk, go_sem, Result.andThen]) ⟨_, rfl, hj, .inl rfl, rfl⟩
        · have b3 : a'.eval (.tmp 3) = .int .i64 ch := hb' 3 (by kernel_rfl); have c3 := ev_get b3
          exact iv_val (v := .int .i64 ch) (by simp [execOp, b3]) ⟨_, rfl, hj, .inl rfl, rfl⟩
        · have v7 : a'.eval (.tmp 29) = .string nm := hd ⟨7, .data⟩ (by simp) rfl (by intro j _ hc; revert hc; unfold noCons; simp; try omega); have u7 := ev_get v7
          have v8 : a'.eval (.tmp 30) = .int .i64 ch := hd ⟨8, .data⟩ (by simp) rfl (by intro j _ hc; revert hc; unfold noCons; simp; try omega); have u8 := ev_get v8
          exact iv_val (v := .agg #[.string nm, .int .i64 ch]) (by simp [execOp, u7, u8, go_sem, Result.andThen]) ⟨_, rfl, hj, .inl rfl, rfl⟩
        · have v3 : a'.eval (.tmp 25) = lv := hd ⟨3, .data⟩ (by simp) rfl (by intro j _ hc; revert hc; unfold noCons; simp; try omega); have u3 := ev_get v3
          have v9 : a'.eval (.tmp 31) = .agg #[.string nm, .int .i64 ch] := hd ⟨9, .data⟩ (by simp) rfl (by intro j _ hc; revert hc; unfold noCons; simp; try omega); have u9 := ev_get v9
          refine iv_enter (f := 152) (args := #[lv, .agg #[.string nm, .int .i64 ch]]) (by simp [execOp, u3, u9, go_sem]) ?_
          refine (impl_PutEntry_c lv es ⟨nm, ch⟩ wk (HLV.out.on hj) HNL.out).mono ?_
          rintro e9 w9 ⟨v9, rfl, o9, b9⟩
          exact ⟨_, rfl, _, rfl, bl_then hj b9, .inr b9, (show isTupE W0.heap.size (putEnt es ⟨nm, ch⟩).1 (putEnt es ⟨nm, ch⟩).2 _ w9 from ⟨v9, rfl, o9.less hj.size⟩)⟩
        · have et : isTupE W0.heap.size (putEnt es ⟨nm, ch⟩).1 (putEnt es ⟨nm, ch⟩).2 (a'.eval (.tmp 32)) wk := hd ⟨10, .data⟩ (by simp) rfl (by intro j _ hc; revert hc; unfold noCons; simp; try omega)
          exact iv_val (v := a'.eval (.tmp 32)) (by simp [execOp]) ⟨_, rfl, hj, .inl rfl, et⟩
        · have et : isTupE W0.heap.size (putEnt es ⟨nm, ch⟩).1 (putEnt es ⟨nm, ch⟩).2 (a'.eval (.tmp 21)) wk := hd ⟨11, .data⟩ (by simp) rfl (by intro j _ hc; revert hc; unfold noCons; simp; try omega)
          obtain ⟨lw, hlw, how⟩ := et
          have ut := ev_get hlw
          exact iv_val (v := lw) (by simp [execOp, ut, go_sem, Result.andThen]) ⟨_, rfl, hj, .inl rfl, (show isOwnE W0.heap.size (putEnt es ⟨nm, ch⟩).1 _ wk from how)⟩
        · have et : isTupE W0.heap.size (putEnt es ⟨nm, ch⟩).1 (putEnt es ⟨nm, ch⟩).2 (a'.eval (.tmp 21)) wk := hd ⟨11, .data⟩ (by simp) rfl (by intro j _ hc; revert hc; unfold noCons; simp; try omega)
          obtain ⟨lw, hlw, how⟩ := et
          have ut := ev_get hlw
          exact iv_val (v := .bool (putEnt es ⟨nm, ch⟩).2) (by simp [execOp, ut, go_sem, Result.andThen]) ⟨_, rfl, hj, .inl rfl, rfl⟩
        · have et : isOwnE W0.heap.size (putEnt es ⟨nm, ch⟩).1 (a'.eval (.tmp 33)) wk := hd ⟨12, .data⟩ (by simp) rfl (by intro j _ hc; revert hc; unfold noCons; simp; try omega)
          exact iv_val (v := a'.eval (.tmp 33)) (by simp [execOp]) ⟨_, rfl, hj, .inl rfl, et⟩
        · have v13 : a'.eval (.tmp 34) = .bool (putEnt es ⟨nm, ch⟩).2 := hd ⟨13, .data⟩ (by simp) rfl (by intro j _ hc; revert hc; unfold noCons; simp; try omega); have u13 := ev_get v13
          exact iv_val (v := .bool (putEnt es ⟨nm, ch⟩).2) (by simp [execOp, v13]) ⟨_, rfl, hj, .inl rfl, rfl⟩
      case fin =>
        intro tm w9 hj hF
        have q12 : OwnE w9 W0.heap.size (tm.getD 12 undef) (putEnt es ⟨nm, ch⟩).1 := hF 14 _ rfl (fun j => rfl)
        have q13 : tm.getD 13 undef = .bool (putEnt es ⟨nm, ch⟩).2 := hF 15 _ rfl (fun j => rfl)
        clear hF
        simp only [refillL, List.setIfInBounds_toArray, List.set_cons_succ, List.set_cons_zero]
        rw [q13]
        obtain ⟨wv, hwv⟩ : ∃ wv, tm.getD 12 undef = wv := ⟨_, rfl⟩
        rw [hwv] at q12 ⊢
        clear hwv q13
        have d9 := bl_then d0 hj
        have S9 := hid (HSW.out.on hj)
        have Q12 := hid (Rd.of_own q12)
        clear q12 hj
        obtain ⟨pe, hpe⟩ : ∃ pe, putEnt es ⟨nm, ch⟩ = pe := ⟨_, rfl⟩
        rw [hpe] at Q12 ⊢
        have HPE := hid hpe
        clear hpe
        obtain ⟨le, ok⟩ := pe
        cases ok
        · obtain rfl : R = none := by rw [← HR.out]; exact back_bad hx hbk.out (.inl (by rw [HPE.out]))
          go_wp2
          go_ret3
          exact ⟨_, rfl, Rd.nil _ _ _ 0 none (Nat.zero_le _), d9⟩
        have GW := HG.out.on d9
        go_wp2_with fail
        refine (impl_FolderText_c _ le _ Q12.out GW).mono ?_
        rintro e w10 ⟨rfl, b10⟩
        have d10 := bl_then d9 b10
        have S10 := hid (S9.out.on b10)
        clear b10 d9 S9
        go_wp2_with fail
        refine (impl_PutText_c _ s1 _ _ S10.out).mono ?_
        obtain ⟨pt, hpt⟩ : ∃ pt, putS s1 (strL (folderText le)) = pt := ⟨_, rfl⟩
        rw [hpt]
        have HPT := hid hpt
        clear hpt
        obtain ⟨s2, p2, ok2⟩ := pt
        rintro e w11 ⟨tv, rfl, o11, b11⟩
        have d11 := bl_then d10 b11
        have S11 := hid (Rd.of_own o11)
        clear o11 b11 d10 S10
        cases ok2
        · obtain rfl : R = none := by rw [← HR.out]; exact back_bad hx hbk.out (.inr (by rw [HPE.out, HPT.out]))
          go_wp2
          go_ret3
          exact ⟨_, rfl, Rd.nil _ _ _ 0 none (Nat.zero_le _), d11⟩
        · have HN := hid (show backTo xs ((E.zip parts).drop j) pr = some (s2, p2) by rw [back_step hx hbk.out (by rw [HPE.out]) (by rw [HPE.out, HPT.out]), HPE.out, HPT.out])
          go_wp2
          go_roundw
          case rel => exact ⟨j, s2, p2, (j : Int) - 1, by omega, by first | rfl | (rw [hw2]) | go_num, rfl, rfl, S11, HN, d11⟩
          case measure => simp [intOf] <;> omega
    · obtain rfl : k = 0 := by omega
      have hi0 : i = -1 := by omega
      subst hi0
      clear hi
      obtain rfl : R = some (s1, ch) := by rw [← HR.out]; simpa using hbk.out
      have S9 := hsv.out
      go_wp2
      go_ret3
      exact ⟨_, rfl, S9, hb⟩

end Go.Proofs.YtachfmlfmpaddaaGreatDoor

/- Walks: drawn writes. -/
namespace Go.Proofs.YtachfmlfmpaddaaGreatDoor
open Go.RowKit

theorem results_tmp4' {fn : Func} {t u v x : Tmp} (h : fn.results = #[.tmp t, .tmp u, .tmp v, .tmp x]) (tmps : Array Value) (P : Program) (w : World) :
    (results fn tmps).run P w = .ok (.tuple #[tmps.getD t undef, tmps.getD u undef, tmps.getD v undef, tmps.getD x undef]) w := by
  simp [results, h]
def isST : Value → World → Prop := fun v _ => ∃ s : ByteArray, v = .string s ∧ s.size ≤ 100
def isL3 (g : Nat) : Value → World → Prop := fun v w => ∃ (b : Nat) (x y z : ByteArray), v = .slice (some ⟨b, 0, none⟩) 3 3 ∧ ¬ (b = g) ∧ w.heap[b]? = some (.cells #[.string x, .string y, .string z] 9 (0, 0)) ∧ x.size ≤ 100 ∧ y.size ≤ 100 ∧ z.size ≤ 100
def isP3 (g : Nat) : Value → World → Prop := fun v w => ∃ (b i : Nat) (x y z : ByteArray), v = .pointer (some ⟨b, i, none⟩) ∧ i < 3 ∧ ¬ (b = g) ∧ w.heap[b]? = some (.cells #[.string x, .string y, .string z] 9 (0, 0)) ∧ x.size ≤ 100 ∧ y.size ≤ 100 ∧ z.size ≤ 100
theorem three_cell {w : World} {b i : Nat} {x y z : ByteArray} (hi : i < 3) (h : w.heap[b]? = some (.cells #[.string x, .string y, .string z] 9 (0, 0))) (hx : x.size ≤ 100) (hy : y.size ≤ 100) (hz : z.size ≤ 100) : ∃ s : ByteArray, s.size ≤ 100 ∧ w.cell? ⟨b, i, none⟩ = some (.string s) := by
  obtain rfl | rfl | rfl : i = 0 ∨ i = 1 ∨ i = 2 := by omega
  · exact ⟨x, hx, by simp [World.cell?, h]⟩
  · exact ⟨y, hy, by simp [World.cell?, h]⟩
  · exact ⟨z, hz, by simp [World.cell?, h]⟩
theorem cont_size {s : ByteArray} (h : contS s = true) : s.size ≤ 100 := by
  unfold contS at h
  rw [Bool.and_eq_true, decide_eq_true_eq] at h
  omega

def dwJ (g : Nat) (l : List Int) (W0 : World) (n : Nat) (w : World) : Prop := ∃ p', p' ≤ 2 * n ∧ Reader w g l p' ∧ Frm (fun k => k = g) W0 w

theorem dwStep {g : Nat} {l : List Int} {n : Nat} {W0 w : World} (h : dwJ g l W0 n w) : dwJ g l W0 (n + 1) w := by
  obtain ⟨p', h1, h2, h3⟩ := h
  exact ⟨p', by omega, h2, h3⟩

/-- A drawn store, a root, a path and a content. -/
def WriteB (w : World) (e : Ending) (w' : World) : Prop := ∃ (v : Value) (xs : List Pc) (root : Int) (path content : ByteArray), e = .returned (.tuple #[v, .int .i64 root, .string path, .string content]) ∧ OwnP w' w.heap.size v xs ∧ DrawnH xs ∧ path.size ≤ 40 ∧ content.size ≤ 1000 ∧ Below w.heap.size w w'

set_option maxHeartbeats 2000000 in
set_option maxRecDepth 100000 in
theorem spec_DrawWriteAt_c (v : Value) (l0 : List Int) (w : World) (h : Rd encU 1 w w.heap.size v l0) (hl : ∀ x ∈ l0, 0 ≤ x ∧ x ≤ 255) :
    Calls Tryz.prog 45 #[v] w (WriteB w) := by
  unfold WriteB
  have HV := hid h
  have HL0 := hid hl
  go_enter Tryz.func45, Tryz.ntmps45
  go_wp2_with fail
  refine (spec_l20Where_c v l0 w h hl).mono ?_
  rintro e w1 ⟨sv, xs, root, path, rfl, o1, hd, hps, b1⟩
  have S1 := hid o1
  have HD := hid hd
  have hlt1 := hid o1.lt
  clear o1 hd h hl
  go_wp2_with fail
  refine (spec_l20Open_c v l0 w1 (HV.out.on b1) HL0.out).mono ?_
  rintro e w2 ⟨l, rfl, r2, b2⟩
  obtain ⟨g, hg⟩ : ∃ g, w1.heap.size = g := ⟨_, rfl⟩
  have HSB := hid (show ∀ b, sv.ownBlock = some b → b < g from fun b hb => by rw [← hg]; exact (hlt1.out b hb).2)
  rw [hg] at r2
  rw [hg]
  have R2 := hid r2
  have S2 := hid (S1.out.on b2)
  have D2 := hid (bl_then b1 b2)
  have hgw : w.heap.size ≤ g := by rw [← hg]; exact b1.size
  have hg2 : g < w2.heap.size := r2.lt
  clear r2 b1 b2 S1 hg
  go_wp2
  refine drew_out w2 ⟨0, rfl⟩ ?_
  rintro W0 ⟨z00, hW0⟩
  have hw0 : Below w2.heap.size w2 W0 := by rw [hW0]; exact bl_drewN (Below.refl _ _) z00
  have HRW := hid (R2.out.on hw0)
  have OW := hid (S2.out.on hw0)
  have DW := hid (bl_then D2.out hw0)
  clear hW0 hw0 R2 S2 D2
  refine wp_region_inv3e rfl (by kernel_rfl) (by kernel_rfl) (by kernel_rfl) (by kernel_rfl) (by simp) (dwJ g l W0) (fun j w' w'' => w' = w'' ∨ Frm (fun k => k = g) w' w'') (fact [isV sv, isV (.int .i64 root), isV (.string path), isV (.pointer (some ⟨g, 0, none⟩)), isST, isV (.pointer (some ⟨g, 0, none⟩)), isST, isV (.pointer (some ⟨g, 0, none⟩)), isST, isL3 g, isV (.pointer (some ⟨g, 0, none⟩)), isIx 3, isP3 g, isST, isV sv, isV (.int .i64 root), isV (.string path), isST]) whCons ⟨0, by omega, HRW.out.drewR, Frm.of_below (bl_drewN (Below.refl _ _) 1)⟩ ?hF ?grd ?oo ?cg ?fin
  case hF =>
    intro j i v w' w'' hS hc hne hwt hdp hf
    have hi : i < 18 ∨ 18 ≤ i := by omega
    rcases hi with hi | hi
    · obtain rfl | rfl | rfl | rfl | rfl | rfl | rfl | rfl | rfl | rfl | rfl | rfl | rfl | rfl | rfl | rfl | rfl | rfl : i = 0 ∨ i = 1 ∨ i = 2 ∨ i = 3 ∨ i = 4 ∨ i = 5 ∨ i = 6 ∨ i = 7 ∨ i = 8 ∨ i = 9 ∨ i = 10 ∨ i = 11 ∨ i = 12 ∨ i = 13 ∨ i = 14 ∨ i = 15 ∨ i = 16 ∨ i = 17 := by omega
      · exact hf
      · exact hf
      · exact hf
      · exact hf
      · exact hf
      · exact hf
      · exact hf
      · exact hf
      · exact hf
      · rcases hS with rfl | hf9
        · exact hf
        · obtain ⟨b9, s4, s6, s8, h1, h2, h3, h4⟩ := hf; exact ⟨b9, s4, s6, s8, h1, h2, (hf9.block b9 (Array.getElem?_eq_some_iff.1 h3).1 h2).trans h3, h4⟩
      · exact hf
      · exact hf
      · rcases hS with rfl | hf9
        · exact hf
        · obtain ⟨b9, i6, s4, s6, s8, h1, h0, h2, h3, h4⟩ := hf; exact ⟨b9, i6, s4, s6, s8, h1, h0, h2, (hf9.block b9 (Array.getElem?_eq_some_iff.1 h3).1 h2).trans h3, h4⟩
      · exact hf
      · exact hf
      · exact hf
      · exact hf
      · exact hf
    · unfold fact at *; rw [List.getD_eq_getElem?_getD, List.getElem?_eq_none (by simpa using hi)]; trivial
  case grd =>
    intro i oo d bb hi hg v w' hf
    obtain ⟨hlt1, rfl⟩ := Array.getElem?_eq_some_iff.1 hi
    have hlt' : i < 18 := hlt1
    clear hi
    obtain rfl | rfl | rfl | rfl | rfl | rfl | rfl | rfl | rfl | rfl | rfl | rfl | rfl | rfl | rfl | rfl | rfl | rfl : i = 0 ∨ i = 1 ∨ i = 2 ∨ i = 3 ∨ i = 4 ∨ i = 5 ∨ i = 6 ∨ i = 7 ∨ i = 8 ∨ i = 9 ∨ i = 10 ∨ i = 11 ∨ i = 12 ∨ i = 13 ∨ i = 14 ∨ i = 15 ∨ i = 16 ∨ i = 17 := by omega
    all_goals simp at hg
  case cg =>
    intro i oo d bb hi hg j
    obtain ⟨hlt1, rfl⟩ := Array.getElem?_eq_some_iff.1 hi
    have hlt' : i < 18 := hlt1
    clear hi
    obtain rfl | rfl | rfl | rfl | rfl | rfl | rfl | rfl | rfl | rfl | rfl | rfl | rfl | rfl | rfl | rfl | rfl | rfl : i = 0 ∨ i = 1 ∨ i = 2 ∨ i = 3 ∨ i = 4 ∨ i = 5 ∨ i = 6 ∨ i = 7 ∨ i = 8 ∨ i = 9 ∨ i = 10 ∨ i = 11 ∨ i = 12 ∨ i = 13 ∨ i = 14 ∨ i = 15 ∨ i = 16 ∨ i = 17 := by omega
    all_goals simp at hg
  case oo =>
    intro i oo hi qn a' wk hnn hj hb' hd
    obtain ⟨hlt1, rfl⟩ := Array.getElem?_eq_some_iff.1 hi
    have hlt' : i < 18 := hlt1
    clear hi
    obtain rfl | rfl | rfl | rfl | rfl | rfl | rfl | rfl | rfl | rfl | rfl | rfl | rfl | rfl | rfl | rfl | rfl | rfl : i = 0 ∨ i = 1 ∨ i = 2 ∨ i = 3 ∨ i = 4 ∨ i = 5 ∨ i = 6 ∨ i = 7 ∨ i = 8 ∨ i = 9 ∨ i = 10 ∨ i = 11 ∨ i = 12 ∨ i = 13 ∨ i = 14 ∨ i = 15 ∨ i = 16 ∨ i = 17 := by omega
    · have b6 : a'.eval (.tmp 6) = sv := hb' 6 (by kernel_rfl); have c6 := ev_get b6
      exact iv_val (v := sv) (by simp [execOp, b6]) ⟨_, rfl, dwStep hj, .inl rfl, rfl⟩
    · have b7 : a'.eval (.tmp 7) = .int .i64 root := hb' 7 (by kernel_rfl); have c7 := ev_get b7
      exact iv_val (v := .int .i64 root) (by simp [execOp, b7]) ⟨_, rfl, dwStep hj, .inl rfl, rfl⟩
    · have b8 : a'.eval (.tmp 8) = .string path := hb' 8 (by kernel_rfl); have c8 := ev_get b8
      exact iv_val (v := .string path) (by simp [execOp, b8]) ⟨_, rfl, dwStep hj, .inl rfl, rfl⟩
    · have b9 : a'.eval (.tmp 9) = .pointer (some ⟨g, 0, none⟩) := hb' 9 (by kernel_rfl); have c9 := ev_get b9
      exact iv_val (v := .pointer (some ⟨g, 0, none⟩)) (by simp [execOp, b9]) ⟨_, rfl, dwStep hj, .inl rfl, rfl⟩
    · have v3 : a'.eval (.tmp 21) = .pointer (some ⟨g, 0, none⟩) := hd ⟨3, .data⟩ (by simp) rfl (by intro j _ hc; revert hc; unfold whCons; simp; try omega); have u3 := ev_get v3
      obtain ⟨p', hp', hr, hfm⟩ := hj
      have hq18 : qn < 18 := hnn
      refine iv_enter (f := 99) (args := #[.pointer (some ⟨g, 0, none⟩)]) (by simp [execOp, u3, go_sem]) ?_
      refine (spec_l20Content_c g p' l wk hr (by omega)).mono ?_
      rintro e w9 ⟨s9, rfl, hs9, r9, g9⟩
      exact ⟨_, rfl, _, rfl, ⟨_, by omega, r9, hfm.then' (Frm.of_grown g9 (fun b hb => (Option.some.inj hb).symm))⟩, .inr (Frm.of_grown g9 (fun b hb => (Option.some.inj hb).symm)), (show isST _ w9 from ⟨s9, rfl, cont_size hs9⟩)⟩
    · have b9 : a'.eval (.tmp 9) = .pointer (some ⟨g, 0, none⟩) := hb' 9 (by kernel_rfl); have c9 := ev_get b9
      exact iv_val (v := .pointer (some ⟨g, 0, none⟩)) (by simp [execOp, b9]) ⟨_, rfl, dwStep hj, .inl rfl, rfl⟩
    · have v5 : a'.eval (.tmp 23) = .pointer (some ⟨g, 0, none⟩) := hd ⟨5, .data⟩ (by simp) rfl (by intro j _ hc; revert hc; unfold whCons; simp; try omega); have u5 := ev_get v5
      obtain ⟨p', hp', hr, hfm⟩ := hj
      have hq18 : qn < 18 := hnn
      refine iv_enter (f := 99) (args := #[.pointer (some ⟨g, 0, none⟩)]) (by simp [execOp, u5, go_sem]) ?_
      refine (spec_l20Content_c g p' l wk hr (by omega)).mono ?_
      rintro e w9 ⟨s9, rfl, hs9, r9, g9⟩
      exact ⟨_, rfl, _, rfl, ⟨_, by omega, r9, hfm.then' (Frm.of_grown g9 (fun b hb => (Option.some.inj hb).symm))⟩, .inr (Frm.of_grown g9 (fun b hb => (Option.some.inj hb).symm)), (show isST _ w9 from ⟨s9, rfl, cont_size hs9⟩)⟩
    · have b9 : a'.eval (.tmp 9) = .pointer (some ⟨g, 0, none⟩) := hb' 9 (by kernel_rfl); have c9 := ev_get b9
      exact iv_val (v := .pointer (some ⟨g, 0, none⟩)) (by simp [execOp, b9]) ⟨_, rfl, dwStep hj, .inl rfl, rfl⟩
    · have v7 : a'.eval (.tmp 25) = .pointer (some ⟨g, 0, none⟩) := hd ⟨7, .data⟩ (by simp) rfl (by intro j _ hc; revert hc; unfold whCons; simp; try omega); have u7 := ev_get v7
      obtain ⟨p', hp', hr, hfm⟩ := hj
      have hq18 : qn < 18 := hnn
      refine iv_enter (f := 100) (args := #[.pointer (some ⟨g, 0, none⟩), .int .i64 2]) (by simp [execOp, u7, go_sem]) ?_
      refine (spec_l20Text_c g p' l 2 wk hr (by omega) (by omega) (by omega)).mono ?_
      rintro e w9 ⟨s9, p9, rfl, hs9, hp9, r9, g9⟩
      exact ⟨_, rfl, _, rfl, ⟨_, by omega, r9, hfm.then' (Frm.of_grown g9 (fun b hb => (Option.some.inj hb).symm))⟩, .inr (Frm.of_grown g9 (fun b hb => (Option.some.inj hb).symm)), (show isST _ w9 from ⟨s9, rfl, by omega⟩)⟩
    · have e4 : isST (a'.eval (.tmp 22)) wk := hd ⟨4, .data⟩ (by simp) rfl (by intro j _ hc; revert hc; unfold whCons; simp; try omega)
      have e6 : isST (a'.eval (.tmp 24)) wk := hd ⟨6, .data⟩ (by simp) rfl (by intro j _ hc; revert hc; unfold whCons; simp; try omega)
      have e8 : isST (a'.eval (.tmp 26)) wk := hd ⟨8, .data⟩ (by simp) rfl (by intro j _ hc; revert hc; unfold whCons; simp; try omega)
      obtain ⟨s4, v4, hs4⟩ := e4
      obtain ⟨s6, v6, hs6⟩ := e6
      obtain ⟨s8, v8, hs8⟩ := e8
      have u4 := ev_get v4
      have u6 := ev_get v6
      have u8 := ev_get v8
      obtain ⟨p', hp', hr, hfm⟩ := hj
      have hb9 := (Below.refl wk.heap.size wk).alloc (Nat.le_refl _) (.cells #[.string s4, .string s6, .string s8] 9)
      exact iv_val (v := .slice (some ⟨wk.heap.size, 0, none⟩) 3 3) (w' := wk.alloc (.cells #[.string s4, .string s6, .string s8] 9)) (by simp [execOp, u4, u6, u8, go_sem, Result.andThen]) ⟨_, rfl, ⟨p', by omega, hr.alloc _, hfm.then hb9⟩, .inr (Frm.of_below hb9), (show isL3 g _ _ from ⟨wk.heap.size, s4, s6, s8, rfl, (fun e => by have := hr.lt; omega), heap_alloc_new _ _, hs4, hs6, hs8⟩)⟩
    · have b9 : a'.eval (.tmp 9) = .pointer (some ⟨g, 0, none⟩) := hb' 9 (by kernel_rfl); have c9 := ev_get b9
      exact iv_val (v := .pointer (some ⟨g, 0, none⟩)) (by simp [execOp, b9]) ⟨_, rfl, dwStep hj, .inl rfl, rfl⟩
    · have v10 : a'.eval (.tmp 28) = .pointer (some ⟨g, 0, none⟩) := hd ⟨10, .data⟩ (by simp) rfl (by intro j _ hc; revert hc; unfold whCons; simp; try omega); have u10 := ev_get v10
      obtain ⟨p', hp', hr, hfm⟩ := hj
      have hq18 : qn < 18 := hnn
      refine iv_enter (f := 101) (args := #[.pointer (some ⟨g, 0, none⟩), .int .i64 3]) (by simp [execOp, u10, go_sem]) ?_
      refine (spec_pick_c g p' l 3 wk hr (by omega)).mono ?_
      rintro e w9 ⟨x9, rfl, x90, x91, _, r9, g9⟩
      have x92 := x91 (by omega)
      exact ⟨_, rfl, _, rfl, ⟨_, by omega, r9, hfm.then' (Frm.of_grown g9 (fun b hb => (Option.some.inj hb).symm))⟩, .inr (Frm.of_grown g9 (fun b hb => (Option.some.inj hb).symm)), (show isIx 3 _ w9 from ⟨x9, rfl, x90, x92⟩)⟩
    · have e9 : isL3 g (a'.eval (.tmp 27)) wk := hd ⟨9, .data⟩ (by simp) rfl (by intro j _ hc; revert hc; unfold whCons; simp; try omega)
      have e11 : isIx 3 (a'.eval (.tmp 29)) wk := hd ⟨11, .data⟩ (by simp) rfl (by intro j _ hc; revert hc; unfold whCons; simp; try omega)
      obtain ⟨b9, s4, s6, s8, v9, hbg, hh9, hs4, hs6, hs8⟩ := e9
      have u9 := ev_get v9
      obtain ⟨x6, v11, x60, x61⟩ := e11
      have u11 := ev_get v11
      obtain ⟨i6, rfl⟩ : ∃ i6 : Nat, x6 = i6 := ⟨x6.toNat, by omega⟩
      have hi63 : i6 < 3 := by omega
      have x62 : (i6 : Int) < 3 := by omega
      exact iv_val (v := .pointer (some ⟨b9, i6, none⟩)) (by simp [execOp, u9, u11, x62, go_sem, Result.andThen]) ⟨_, rfl, dwStep hj, .inl rfl, (show isP3 g _ wk from ⟨b9, i6, s4, s6, s8, rfl, hi63, hbg, hh9, hs4, hs6, hs8⟩)⟩
    · have e12 : isP3 g (a'.eval (.tmp 30)) wk := hd ⟨12, .data⟩ (by simp) rfl (by intro j _ hc; revert hc; unfold whCons; simp; try omega)
      obtain ⟨b9, i6, s4, s6, s8, v12, hi63, hbg, hh9, hs4, hs6, hs8⟩ := e12
      have u12 := ev_get v12
      obtain ⟨sx, hsx, hcx⟩ := three_cell hi63 hh9 hs4 hs6 hs8
      exact iv_val (v := .string sx) (by simp [execOp, u12, hcx, go_sem, Result.andThen]) ⟨_, rfl, dwStep hj, .inl rfl, (show isST _ wk from ⟨sx, rfl, hsx⟩)⟩
    · have v0 : a'.eval (.tmp 18) = sv := hd ⟨0, .data⟩ (by simp) rfl (by intro j _ hc; revert hc; unfold whCons; simp; try omega); have u0 := ev_get v0
      exact iv_val (v := sv) (by simp [execOp, v0]) ⟨_, rfl, dwStep hj, .inl rfl, rfl⟩
    · have v1 : a'.eval (.tmp 19) = .int .i64 root := hd ⟨1, .data⟩ (by simp) rfl (by intro j _ hc; revert hc; unfold whCons; simp; try omega); have u1 := ev_get v1
      exact iv_val (v := .int .i64 root) (by simp [execOp, v1]) ⟨_, rfl, dwStep hj, .inl rfl, rfl⟩
    · have v2 : a'.eval (.tmp 20) = .string path := hd ⟨2, .data⟩ (by simp) rfl (by intro j _ hc; revert hc; unfold whCons; simp; try omega); have u2 := ev_get v2
      exact iv_val (v := .string path) (by simp [execOp, v2]) ⟨_, rfl, dwStep hj, .inl rfl, rfl⟩
    · have e13 : isST (a'.eval (.tmp 31)) wk := hd ⟨13, .data⟩ (by simp) rfl (by intro j _ hc; revert hc; unfold whCons; simp; try omega)
      exact iv_val (v := a'.eval (.tmp 31)) (by simp [execOp]) ⟨_, rfl, dwStep hj, .inl rfl, e13⟩
  case fin =>
    intro tm w9 hj hF
    obtain ⟨p9, hp9, r9, fm9⟩ := hj
    have q2 : tm.getD 2 undef = sv := hF 14 _ rfl (fun j => rfl)
    have q3 : tm.getD 3 undef = .int .i64 root := hF 15 _ rfl (fun j => rfl)
    have q4 : tm.getD 4 undef = .string path := hF 16 _ rfl (fun j => rfl)
    have q5 : isST (tm.getD 5 undef) w9 := hF 17 _ rfl (fun j => rfl)
    clear hF
    obtain ⟨s5, e5, hs5⟩ := q5
    simp only [refillL, List.setIfInBounds_toArray, List.set_cons_succ, List.set_cons_zero]
    rw [q2, q3, q4, e5]
    have hsb := HSB.out
    have O9 := hid (OW.out.frm fm9 (fun b hb e => by have := hsb b hb; omega))
    have d9 := DW.out.trans (fm9.below (B := w.heap.size) (fun k hk => by omega) (DW.out.size))
    clear r9 fm9 q2 q3 q4 e5
    go_wp2
    (try simp only [Exit.inBlock, Exit.then])
    refine bodyPost_ret (results_tmp4' rfl _ _ _) rfl ?_
    exact ⟨_, _, _, _, _, rfl, O9.out, HD.out, hps, by omega, d9⟩

end Go.Proofs.YtachfmlfmpaddaaGreatDoor
