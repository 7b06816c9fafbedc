/- Walks and plain facts, joined: OnW, FilesQ, DrawSu, WalkS. -/
import Derived.Test.YtnaahincolooeaaGreatDoorMg5
import Derived.Test.YtnaahincolooeaaGreatDoorMg15
import Derived.Test.YtnaahincolooeaaGreatDoorMg28
import Derived.Test.YtnaahincolooeaaGreatDoorMg30
set_option linter.unusedVariables false
set_option linter.unusedSimpArgs false

/- Walks: texts on a way, the program's way. -/
namespace Go.Proofs.YtnaahincolooeaaGreatDoor
open Go.RowKit

noncomputable def onWay : Int → List ByteArray → List ByteArray → Bool
  | _, _, [] => true
  | pr, parts, t :: r => decide (printOf (bs t) = pr) && (match r with
    | [] => true
    | _ :: _ => match readFolder (bs t), parts with
      | some es, nm :: q => (match firstOf es nm with | some c => onWay c q r | none => false)
      | _, _ => false)
theorem onWay_bad {pr : Int} {parts : List ByteArray} {t : ByteArray} {r : List ByteArray} (h : printOf (bs t) ≠ pr) : onWay pr parts (t :: r) = false := by unfold onWay; simp [h]
theorem onWay_last {pr : Int} {parts : List ByteArray} {t : ByteArray} (h : printOf (bs t) = pr) : onWay pr parts [t] = true := by unfold onWay; simp [h]
theorem onWay_nof {pr : Int} {parts : List ByteArray} {t y : ByteArray} {r : List ByteArray} (h : readFolder (bs t) = none) : onWay pr parts (t :: y :: r) = false := by unfold onWay; simp [h]
theorem onWay_non {pr : Int} {nm t y : ByteArray} {q r : List ByteArray} {es : List Ent} (h : readFolder (bs t) = some es) (hn : firstOf es nm = none) : onWay pr (nm :: q) (t :: y :: r) = false := by unfold onWay; simp [h, hn]
theorem onWay_on {pr c : Int} {nm t y : ByteArray} {q r : List ByteArray} {es : List Ent} (hp : printOf (bs t) = pr) (h : readFolder (bs t) = some es) (hn : firstOf es nm = some c) : onWay pr (nm :: q) (t :: y :: r) = onWay c q (y :: r) := by
  conv => lhs; unfold onWay
  simp [hp, h, hn]

set_option maxHeartbeats 2000000 in
set_option maxRecDepth 100000 in
theorem impl_onTheWay_c (root : Int) (pv tv : Value) (parts proof : List ByteArray) (w : World) (R : Bool) (hR : onWay root parts proof = R) (hp : Strs w w.heap.size pv parts) (ht : Strs w w.heap.size tv proof) (hl : proof.length ≤ parts.length + 1) (hs : ∀ t ∈ proof, t.size ≤ 1048576) (hg : Glob w) :
    Calls Tryz.prog 92 #[.int .i64 root, pv, tv] w fun e w' => e = .returned (.bool R) ∧ Below w.heap.size w w' := by
  obtain ⟨m, hm⟩ : ∃ m, parts.length = m := ⟨_, rfl⟩
  obtain ⟨n, hn⟩ : ∃ n, proof.length = n := ⟨_, rfl⟩
  obtain ⟨pa, pc, rfl, _, _, hp3⟩ := hp.strs hm
  obtain ⟨ta, tc, rfl, _, htc, ht3⟩ := ht.strs hn
  have HP3 := hid hp3
  have HT3 := hid ht3
  have HM := hid hm
  have HN := hid hn
  have HS := hid hs
  have HG := hid hg
  have HR := hid hR
  have hnm : n ≤ m + 1 := by omega
  clear hp ht hp3 ht3 hm hn hs hg hR hl
  go_enter Tryz.func92, Tryz.ntmps92
  go_wp2
  go_loopw [7, 8, 9, 10, 11, 12, 13, 17] (fun q _ _ _ _ _ _ i wr => ∃ (k : Nat) (y : Int), k ≤ n ∧ i = .int .i64 k ∧ q = .int .i64 y ∧ Hid (onWay y (parts.drop k) (proof.drop k) = R) ∧ Below w.heap.size w wr) (fun _ _ _ _ _ _ _ i _ => n - (intOf i).toNat)
  case atStart => exact ⟨0, root, Nat.zero_le _, rfl, rfl, hid (by simpa using HR.out), Below.refl _ _⟩
  case round =>
    obtain ⟨k, y, hk, rfl, rfl, hw, hb⟩ := hrel
    by_cases hlt : k < n
    · obtain ⟨b, o, t, rfl, hbl, hx, k0⟩ := HT3.out k hlt
      have j0 := (hb.cell (p := ⟨b, o + k, none⟩) hbl).trans k0
      have HD := hid (show onWay y (parts.drop k) (t :: proof.drop (k + 1)) = R by rw [← drop_cons hx.out]; exact hw.out)
      have hkn : (k : Int) < n := by omega
      have HTS := hid (HS.out t (List.mem_of_getElem? hx.out))
      obtain ⟨z, hz⟩ : ∃ z, printOf (bs t) = z := ⟨_, rfl⟩
      have HZ := hid hz
      have hw1 : IntKind.i64.wrap ((n : Int) - 1) = (n : Int) - 1 := IntWalk.i64_in _ (by omega)
      clear hw k0 hz
      by_cases hzy : z = y
      · subst hzy
        by_cases hlast : k + 1 = n
        · obtain rfl : R = true := by
            rw [← HD.out, List.drop_of_length_le (l := proof) (by have := HN.out; omega)]
            exact onWay_last HZ.out
          have hd1 : ((k : Int) == (n : Int) - 1) = true := by simp; omega
          clear hlast
          go_wp2_with (go_at_call 71; refine (impl_PrintOf_e _ _ HZ.out).mono ?_; rintro e w7 ⟨rfl, rfl⟩)
          go_ret
          exact ⟨rfl, hb⟩
        · have hd1 : ((k : Int) == (n : Int) - 1) = false := by simp; omega
          have hk1 : k + 1 < n := by omega
          have hkm : k < m := by omega
          have hkm' : (k : Int) < m := by omega
          obtain ⟨t2, hx2⟩ : ∃ t2, Hid (proof[k + 1]? = some t2) := by
            obtain ⟨_, _, t2, _, _, hx2, _⟩ := HT3.out (k + 1) hk1
            exact ⟨t2, hx2⟩
          obtain ⟨b', o', nm, rfl, hbl', hx', k1⟩ := HP3.out k hkm
          have HNX := hid (drop_cons hx2.out)
          have HE := hid (show onWay z (nm :: parts.drop (k + 1)) (t :: t2 :: proof.drop (k + 1 + 1)) = R by rw [← drop_cons hx'.out, ← HNX.out]; exact HD.out)
          obtain ⟨F, hF⟩ : ∃ F, readFolder (bs t) = F := ⟨_, rfl⟩
          have HF := hid hF
          have HES := hid (show entsOf (bs t) = F.getD [] by unfold entsOf; rw [hF])
          have HK1 := hid k1
          clear hF k1 hlast
          go_wp2_with (first | (go_at_call 71; refine (impl_PrintOf_e _ _ HZ.out).mono ?_; rintro e w7 ⟨rfl, rfl⟩) | fail)
          refine (impl_ReadFolder_c t _ HTS.out (HG.out.on hb)).mono ?_
          rw [HES.out, HF.out]
          rintro e w3 ⟨lv, rfl, o3, b3⟩
          have d3 := bl_then hb b3
          have j1 := (d3.cell (p := ⟨b', o' + k, none⟩) hbl').trans HK1.out
          cases F with
          | none =>
            obtain rfl : R = false := by rw [← HE.out]; exact onWay_nof HF.out
            clear o3 b3
            go_wp2
            go_ret
            exact ⟨rfl, d3⟩
          | some es =>
            have L3 : Hid (Ents w3 w3.heap.size lv es) := hid (Rd.of_own o3)
            have HEO := hid (readFolder_some HF.out).1
            obtain ⟨Q, hQ⟩ : ∃ Q, firstOf es nm = Q := ⟨_, rfl⟩
            have HQ := hid hQ
            obtain ⟨n3, hn3⟩ : ∃ n3, es.length = n3 := ⟨_, rfl⟩
            obtain ⟨la, lc, rfl, _, _, _⟩ := L3.out.ents hn3
            clear o3 b3 hQ hn3
            go_wp2_with fail
            refine (impl_printNamed_c _ es nm _ Q HQ.out L3.out HEO.out).mono ?_
            rintro e w4 ⟨rfl, b4⟩
            have d4 := bl_then d3 b4
            clear b4 j1 d3
            cases Q with
            | none =>
              obtain rfl : R = false := by rw [← HE.out]; exact onWay_non HF.out HQ.out
              go_wp2
              go_ret
              exact ⟨rfl, d4⟩
            | some c =>
              have HNN := hid (show onWay c (parts.drop (k + 1)) (proof.drop (k + 1)) = R by rw [HNX.out, ← HE.out]; exact (onWay_on HZ.out HF.out HQ.out).symm)
              go_wp2
              go_roundw
              case rel => exact ⟨k + 1, c, by omega, by go_num, rfl, HNN, d4⟩
              case measure => simp [intOf]; omega
      · obtain rfl : R = false := by rw [← HD.out]; exact onWay_bad (by rw [HZ.out]; exact hzy)
        have hd1 : (z == y) = false := by simpa using hzy
        go_wp2_with (go_at_call 71; refine (impl_PrintOf_e _ _ HZ.out).mono ?_; rintro e w7 ⟨rfl, rfl⟩)
        go_ret
        exact ⟨rfl, hb⟩
    · obtain rfl : R = true := by
        rw [← hw.out, List.drop_of_length_le (l := proof) (by have := HN.out; omega)]
        unfold onWay; rfl
      go_wp2
      go_ret
      exact ⟨rfl, hb⟩

end Go.Proofs.YtnaahincolooeaaGreatDoor

/- What is read at a path, and the files below a root, in plain Lean. -/
namespace Go.Proofs.YtnaahincolooeaaGreatDoor
open Go.RowKit

theorem read_way {xs : List Pc} {root : Int} {path : List UInt8} {ws : List (List UInt8)} (hs : storeOk xs = true) (hp : pathParts path = some ws) : (readAt xs root path).2 = true ↔ FileWay xs root (ws.map strL) := by
  have hw := walk_on (root := root) hs hp
  unfold readAt FileWay
  rw [hw]
  constructor
  · intro h
    split at h
    · rename_i h1
      exact ⟨(walkAt xs root (ws.map strL)).1, by rw [← h1], h⟩
    · cases h
  · rintro ⟨c, h1, h2⟩
    rw [h1, if_pos rfl]
    exact h2
theorem joinP_parts {path : List UInt8} {ws : List (List UInt8)} (hp : pathParts path = some ws) : joinP ws = path := (pathParts_in hp).2.2
/-- A path is among the files if and only if it can be read. -/
theorem among_iff {xs : List Pc} {root : Int} {path : List UInt8} {ws : List (List UInt8)} (hs : storeOk xs = true) (hp : pathParts path = some ws) (h0 : ws ≠ []) : strL path ∈ allFiles xs root ↔ (readAt xs root path).2 = true := by
  obtain ⟨h3, hw, hj⟩ := pathParts_in hp
  have hbs : (ws.map strL).map bs = ws := strs_bs ws
  unfold allFiles
  rw [if_pos hs, below_mem, read_way hs hp]
  constructor
  · rintro ⟨us, _, hl, hf, he⟩
    have e2 : joinP ((ws.map strL).map bs) = joinP (us.map bs) := by
      have := congrArg bs he
      rw [bs_strL, bs_strL] at this
      rw [hbs, hj]; simpa using this
    have := join_inj (by simpa using h3) hl (fun x hx => by obtain ⟨y, hy, rfl⟩ := List.mem_map.1 hx; rw [bs_strL]; exact hw y hy) (fileWay_words us root hf) e2
    rw [this]; exact hf
  · intro hf
    exact ⟨ws.map strL, by simpa using h0, by simpa using h3, hf, by rw [List.nil_append, hbs, hj]⟩
/-- Each file's path has words and can be read. -/
theorem among_read {xs : List Pc} {root : Int} {p : ByteArray} (h : p ∈ allFiles xs root) : storeOk xs = true ∧ ∃ ws : List ByteArray, ws ≠ [] ∧ ws.length ≤ 3 ∧ pathParts (bs p) = some (ws.map bs) ∧ FileWay xs root ws ∧ (readAt xs root (bs p)).2 = true := by
  unfold allFiles at h
  split at h
  · rename_i hs
    obtain ⟨ws, h0, hl, hf, rfl⟩ := (below_mem 3 root [] p).1 h
    have hp := parts_join (ws := ws.map bs) (by simpa using hl) (by simpa using fileWay_words ws root hf)
    rw [List.nil_append, bs_strL]
    refine ⟨hs, ws, h0, hl, hp, hf, (read_way hs hp).2 ?_⟩
    have h4 : (ws.map bs).map strL = ws := by
      rw [List.map_map]
      conv => rhs; rw [← List.map_id ws]
      exact List.map_congr_left (fun x _ => by simp [strL_bs])
    rw [h4]; exact hf
  · simp at h
theorem allFiles_once {xs : List Pc} {root : Int} : (allFiles xs root).Pairwise (fun a b => a ≠ b) := by
  unfold allFiles
  split
  · exact below_once 3 root [] (by simp) (by simp)
  · simp

end Go.Proofs.YtnaahincolooeaaGreatDoor

/- Walks: drawn stores. -/
namespace Go.Proofs.YtnaahincolooeaaGreatDoor
open Go.RowKit

theorem setP_flat1 : ∀ (xs : List Pc) (j : Nat) (x : Pc) (r : Int), xs[j]? = some x → (xs.flatMap encP).set (j * 2) (.int .i64 r) = (xs.set j ⟨r, x.text⟩).flatMap encP
  | [], j, x, r, h => by simp at h
  | a :: t, 0, x, r, h => by simp at h; subst h; rfl
  | a :: t, j + 1, x, r, h => by
    have := setP_flat1 t j x r (by simpa using h)
    rw [List.set_cons_succ, List.flatMap_cons, List.flatMap_cons, ← this, show (j + 1) * 2 = j * 2 + 2 by omega]
    rfl
theorem setP_flat2 : ∀ (xs : List Pc) (j : Nat) (x : Pc) (u : ByteArray), xs[j]? = some x → (xs.flatMap encP).set (j * 2 + 1) (.string u) = (xs.set j ⟨x.print, u⟩).flatMap encP
  | [], j, x, u, h => by simp at h
  | a :: t, 0, x, u, h => by simp at h; subst h; rfl
  | a :: t, j + 1, x, u, h => by
    have := setP_flat2 t j x u (by simpa using h)
    rw [List.set_cons_succ, List.flatMap_cons, List.flatMap_cons, ← this, show (j + 1) * 2 + 1 = j * 2 + 1 + 2 by omega]
    rfl
theorem own_pc_set {w : World} {B g n c i : Nat} {xs ys : List Pc} {u : Value} (h : OwnP w B (.slice (some ⟨g, 0, none⟩) n c) xs) (hn : xs.length = n) (hi : i < n * 2) (hy : (xs.flatMap encP).set i u = ys.flatMap encP) (hl : ys.length = n) :
    OwnP (w.setCell ⟨g, i, none⟩ u) B (.slice (some ⟨g, 0, none⟩) n c) ys ∧ w.grownBy (w.setCell ⟨g, i, none⟩ u) (some g) ∧ (∃ x, w.cell? ⟨g, i, none⟩ = some x) ∧ w.frozen? ⟨g, i, none⟩ = false := by
  have h' : w.ownsRow B 59 2 (.slice (some ⟨g, 0, none⟩) n c) n (xs.flatMap encP) := by have := h; unfold OwnP Own at this; rwa [hn] at this
  have hs := h'.stored i u
  refine ⟨?_, hs.2, ?_, h'.frozenAt i⟩
  · have h3 := hs.1
    unfold OwnP Own
    rw [hl, ← hy]
    exact h3
  · have hx := h'.cellAt i hi
    have hlen : i < (xs.flatMap encP).length := by rw [flatP_len, hn]; exact hi
    exact ⟨_, hx.trans (List.getElem?_eq_getElem hlen)⟩
theorem own_pc_slice {w : World} {B n : Nat} {v : Value} {xs : List Pc} (h : OwnP w B v xs) (hn : xs.length = n) (h0 : 0 < n) : ∃ g cap, v = .slice (some ⟨g, 0, none⟩) n cap ∧ B ≤ g ∧ g < w.heap.size ∧ n ≤ cap := by
  rcases h.2 with ⟨_, hz⟩ | ⟨g, cap, cur, hv, hbg, hh, hnc, _⟩
  · exfalso
    cases xs with
    | nil => simp at hn; omega
    | cons a r => simp at hz
  · exact ⟨g, cap, by rw [hv, hn], hbg, (Array.getElem?_eq_some_iff.1 hh).1, by omega⟩
theorem good_nil : Good [] := ⟨rfl, fun _ => 0, fun n t h => by cases h⟩
theorem empty_good : (putS [] (strL (folderText []))).2.2 = true ∧ Good1 (putS [] (strL (folderText []))).1 := by
  have ht : textOk (bs (strL (folderText []))) = true := by rw [bs_strL]; exact folder_textOk rfl
  have hp := put_new (l := []) (t := strL (folderText [])) rfl ht rfl (by simp)
  have h2 : (putS [] (strL (folderText []))).2.2 = true := by rw [hp]
  refine ⟨h2, (goodL_put (good_nil.l (-1)) h2 (fun y hy => ?_)).good, ?_⟩
  · rw [nmd_folder rfl] at hy; simp at hy
  · rw [hp]; intro e; have := congrArg List.length e; rw [insP_len] at this; simp at this

/-- A drawn store and a root. -/
def StoreD (n : Int) (w : World) (g : Nat) (l : List Int) (p : Nat) (e : Ending) (w' : World) : Prop :=
  ∃ (v : Value) (xs : List Pc) (root : Int) (p' : Nat), e = .returned (.tuple #[v, .int .i64 root]) ∧ OwnP w' w.heap.size v xs ∧ (n ≤ 0 → Good1 xs) ∧ Drawn xs ∧ p' ≤ p + 30 ∧ Reader w' g l p' ∧ w.grownBy w' (some g)

def dsF (W0 : World) (sl : Value) (xs : List Pc) (gs : Nat) (x : Pc) : List (Value → World → Prop) :=
  [isEmpP W0.heap.size, isV sl, isOwnP W0.heap.size ([] ++ xs), isV sl, isV (.pointer (some ⟨gs, 0, none⟩)), isV (.agg #[.int .i64 x.print, .string x.text]), isLitP W0.heap.size x.print x.text,
   isOwnP W0.heap.size ([] ++ xs ++ [x]), isOwnP W0.heap.size ([] ++ xs ++ [x])]
def dsCons (j i : Nat) : Bool := (j == 2 && i == 0) || (j == 7 && (i == 2 || i == 6))
def dsS (j : Nat) (w w' : World) : Prop := w = w' ∨ Below w.heap.size w w' ∨ (j = 2 ∧ ∃ b, w.heap[b]? = some (.cells #[] 59 (0, 0)) ∧ w.grownBy w' (Value.ownBlock (.slice (some ⟨b, 0, none⟩) 0 0))) ∨ j = 7

set_option maxHeartbeats 2000000 in
set_option maxRecDepth 100000 in
theorem spec_l20Store_c (g p : Nat) (l : List Int) (nn : Int) (w : World) (h : Reader w g l p) (hp : p ≤ 1099511627) (hn0 : 0 ≤ nn) (hn9 : nn ≤ 1000000) :
    Calls Tryz.prog 105 #[.pointer (some ⟨g, 0, none⟩), .int .i64 nn] w (StoreD nn w g l p) := by
  have hgl : g < w.heap.size := h.lt
  have HR := hid h
  have hal : Below w.heap.size w (w.alloc (.cells #[] 59)) := (Below.refl _ _).alloc (Nat.le_refl _) _
  have hown0 : Hid (OwnP (w.alloc (.cells #[] 59)) w.heap.size (.slice (some ⟨w.heap.size, 0, none⟩) 0 0) []) := hid (Own.made _ (Nat.le_refl _))
  obtain ⟨⟨xs0, p0, ok0⟩, hE⟩ : ∃ P, putS [] (strL (folderText [])) = P := ⟨_, rfl⟩
  have HE := hid (show emptyRoot [] = (xs0, p0, ok0) from hE)
  have HG0 := hid (show Good1 xs0 by have := empty_good.2; rw [hE] at this; exact this)
  obtain ⟨i0, hi0, hz0, hz1, hz2⟩ := info_parts info_pcO
  clear h hE
  go_enter Tryz.func105, Tryz.ntmps105
  go_wp2_with fail
  refine (spec_EmptyRoot_c _ [] _ (Rd.of_own hown0.out) (by simp) (by simp)).mono ?_
  rw [HE.out]
  rintro e w1 ⟨v1, rfl, o1, b1⟩
  have d1 := hal.trans (b1.mono hal.size)
  have O1 := hid (o1.less hal.size)
  have R1 := hid (HR.out.on d1)
  have s1 := d1.size
  clear o1 b1 hal hown0
  go_wp2_with fail
  refine (spec_pick_c g p l 6 _ R1.out (by omega)).mono ?_
  rintro e w2 ⟨x, rfl, x0, x3, _, r2, g2⟩
  have R2 := hid r2
  have G2 := hid ((gb_of_below d1 (some g)).trans g2)
  have O2 := hid (O1.out.far g2 (fun b hb => by simp at hb; omega))
  have s2 := g2.size
  have x3' := x3 (by omega)
  obtain ⟨m, rfl⟩ : ∃ m : Nat, x = m := ⟨x.toNat, by omega⟩
  clear r2 g2 x3 O1 R1 d1
  go_wp2
  go_loopw [6, 7, 9] (fun sv rv kv wr => ∃ (q p' : Nat) (xs : List Pc) (root : Int), q ≤ m ∧ kv = .int .i64 q ∧ rv = .int .i64 root ∧ OwnP wr w.heap.size sv xs ∧ Hid (Good1 xs) ∧ p' + 4 * q ≤ p + 1 + 4 * m ∧ Hid (Reader wr g l p') ∧ Hid (w.grownBy wr (some g))) (fun _ _ k _ => (intOf k).toNat)
  case atStart => exact ⟨m, p + 1, xs0, p0, Nat.le_refl _, rfl, rfl, O2.out, HG0, by omega, R2, G2⟩
  case round =>
    obtain ⟨q, p', xs, root, hq, rfl, rfl, ho, HG, hp', R, G⟩ := hrel
    have hB := G.out.size
    by_cases hq0 : 0 < q
    · have HO := hid ho
      clear ho
      go_wp2_with fail
      refine (spec_l20Step_c g p' w.heap.size l _ xs root _ R.out (by omega) HO.out hgl hB HG.out).mono ?_
      rintro e w3 ⟨v3, xs3, root3, ok3, p3, rfl, o3, g3, hp3, r3, gg3⟩
      have O3 := hid o3
      have HG3 := hid g3
      have R3 := hid r3
      have G3 := hid (G.out.trans gg3)
      clear o3 g3 r3 gg3 HO R G
      go_wp2
      go_roundw
      case rel => exact ⟨q - 1, p3, xs3, root3, by omega, by go_num, rfl, O3.out, HG3, by omega, R3, G3⟩
      case measure => simp [intOf]; omega
    · obtain ⟨n, hn⟩ : ∃ n, xs.length = n := ⟨_, rfl⟩
      have HN := hid hn
      have hn40 : n ≤ 40 := by rw [← hn]; exact (st_in HG.out.1.1).1
      have hnp : 0 < n := by
        rw [← hn]
        have h0 := HG.out.2
        cases xs with
        | nil => exact absurd rfl h0
        | cons x r => simp
      obtain ⟨gs, c, rfl, hgs0, hgs, hnc⟩ := own_pc_slice ho hn hnp
      have HO := hid ho
      clear ho hn
      go_wp2_with fail
      refine (spec_odd_c g p' l nn _ R.out (by omega) hn0 hn9).mono ?_
      rintro e w4 ⟨y, p4, rfl, hy0, hp4, r4, g4⟩
      have s4 := g4.size
      have O4 := hid (HO.out.far g4 (fun b hb => by simp at hb; omega))
      have R4 := hid r4
      have G4 := hid (G.out.trans g4)
      have HZ := hid hy0
      clear r4 g4 HO R G hy0
      cases y
      · go_wp2
        go_ret2
        exact ⟨_, xs, root, p4, rfl, O4.out, fun _ => HG.out, HG.out.1.drawn HG.out.2, by omega, R4.out, G4.out⟩
      · go_wp2_with fail
        refine (spec_pick_c g p4 l 3 _ R4.out (by omega)).mono ?_
        rintro e w5 ⟨z, rfl, z0, z3, _, r5, g5⟩
        have s5 := g5.size
        have R5 := hid r5
        have G5 := hid (G4.out.trans g5)
        have O5 := hid (O4.out.far g5 (fun b hb => by simp at hb; omega))
        clear r5 g5 R4 G4 O4 z3
        by_cases hz0' : z = 0
        · have hzd : (z == 0) = true := by simp [hz0']
          clear hz0' z0
          have hal5 : Below w5.heap.size w5 (w5.alloc (.cells #[] 59)) := (Below.refl _ _).alloc (Nat.le_refl _) _
          go_wp2_with (at_builtin; refine wpList_cat (enc := encP) (w0 := w5.alloc (.cells #[] 59)) rfl _ _ 23 rfl w5.heap.size w5.heap.size 59 i0 _ 2 24 Tryz.underlying23 hi0 hz0 hz1 hz2 rfl (by decide) _ _ [] xs (Own.made w5 (Nat.le_refl _)) _ ((Rd.of_own O5.out).below hal5 (Nat.le_refl _)) (Below.refl _ _) (by simp) (Nat.le_refl _) rfl rfl encP_one (by have := HN.out; simp; omega) (by decide) ?_; intro v6 w6 hown' hb' hB' hg'; rw [List.nil_append] at hown'; obtain ⟨gt, ct, rfl, hgt0, hgt, hnct⟩ := own_pc_slice hown' HN.out hnp; have HO6 := hid hown'; have HB6 := hid (hal5.trans hb'); clear hown' hb' hg' hB')
          have b6 := HB6.out
          have hown' := HO6.out
          have O6 := hid (hown'.less (by omega : w.heap.size ≤ w5.heap.size))
          have R6 := hid (R5.out.on b6)
          have G6 := hid (G5.out.trans (gb_of_below b6 (some g)))
          have s6 := b6.size
          clear hown' HO6 HB6 b6 hal5 R5 G5 O5
          refine (spec_pick_c g _ l n _ R6.out (by omega)).mono ?_
          rintro e w7 ⟨jz, rfl, j0, j1, _, r7, g7⟩
          have j1' := j1 (by omega)
          obtain ⟨j, rfl⟩ : ∃ j : Nat, jz = j := ⟨jz.toNat, by omega⟩
          have hjn : j < n := by omega
          have hjn' : (j : Int) < n := by omega
          have s7 := g7.size
          have R7 := hid r7
          have G7 := hid (G6.out.trans g7)
          have O7 := hid (O6.out.far g7 (fun b hb => by simp at hb; omega))
          clear r7 g7 R6 G6 O6 j1 j0
          go_wp2_with fail
          refine (spec_pick_c g _ l 2 _ (R7.out.alloc _) (by omega)).mono ?_
          rintro e w8 ⟨iz, rfl, i00, i1, _, r8, g8⟩
          have i1' := i1 (by omega)
          obtain ⟨i, rfl⟩ : ∃ i : Nat, iz = i := ⟨iz.toNat, by omega⟩
          have hi2 : i < 2 := by omega
          have hh := (g8.block w7.heap.size (by simp) (some_ne (by omega))).trans (heap_alloc_new w7 _)
          obtain ⟨r, r0, r9, hr⟩ := intI_cell (lo := -1) (hi := 5) (t := 3) (cs := #[.int .i64 (-1), .int .i64 5]) (by rfl) hi2
          have hc := hr _ _ hh
          have s8 := g8.size
          have O8 := hid (((O7.out.alloc (.cells #[.int .i64 (-1), .int .i64 5] 3)).far g8 (fun b hb => by simp at hb; omega)))
          have R8 := hid r8
          have G8 := hid (G7.out.trans (gb_unalloc g8))
          obtain ⟨x, hx⟩ : ∃ x, xs[j]? = some x := ⟨xs[j]'(by have := HN.out; omega), List.getElem?_eq_getElem _⟩
          obtain ⟨o9, g9, ⟨y9, k9⟩, f9⟩ := own_pc_set (i := j * 2) (u := .int .i64 r) O8.out HN.out (by omega) (setP_flat1 xs j x r hx) (by simp [HN.out])
          have O9 := hid o9
          have HD := hid (drawn_print HG.out.1 HG.out.2 hx r)
          have R9 := hid (R8.out.kept g9 (fun b hb => by simp at hb; omega))
          have G9 := hid (show w.grownBy (w8.setCell ⟨gt, j * 2, none⟩ (.int .i64 r)) (some g) from gb_out G8.out g9 (fun b hb => .inr (by simp at hb; omega)))
          clear hh hr g8 r8 i1 R7 G7 O7 o9 g9 hx i00
          go_wp2
          go_ret2
          exact ⟨_, _, root, _, rfl, O9.out, fun h => (by have := HZ.out h; cases this), HD.out, by omega, R9.out, G9.out⟩
        · have hzd : (z == 0) = false := by simp [hz0']
          clear hz0'
          by_cases hz1' : z = 1
          · have hzd1 : (z == 1) = true := by simp [hz1']
            clear hz1' z0
            go_wp2
            refine drew_out w5 ⟨0, rfl⟩ ?_
            rintro W0 ⟨z00, hW0⟩
            have hw05 : Below w5.heap.size w5 W0 := by rw [hW0]; exact bl_drewN (Below.refl _ _) z00
            have hB0 : w.heap.size ≤ W0.heap.size := by have := hw05.size; omega
            have HH : Hid (Pcs W0 W0.heap.size (.slice (some ⟨gs, 0, none⟩) n c) xs) := hid ((Rd.of_own O5.out).on hw05)
            have hgsW : gs < W0.heap.size := by have := (O5.out.lt gs rfl).2; have := hw05.size; omega
            obtain ⟨a', c', hv', _, _, h3'⟩ := HH.out.pcs HN.out
            simp only [Value.slice.injEq] at hv'
            obtain ⟨rfl, _, rfl⟩ := hv'
            obtain ⟨b0, o0, r0, t0, hbo, hbl, hx0, k0, k1⟩ := h3' 0 hnp
            simp only [Option.some.injEq, Addr.mk.injEq, and_true] at hbo
            obtain ⟨rfl, rfl⟩ := hbo
            simp only [Nat.zero_mul, Nat.zero_add] at k0 k1
            have hgs := hgsW
            have hn0' : (0 : Int) < n := by omega
            have hn0 : 0 < n := hnp
            have R5' := hid (R5.out.on hw05)
            have G5' := hid (G5.out.trans (gb_of_below hw05 (some g)))
            clear h3' R5 G5 hW0 O5
            have R5 := R5'
            have G5 := G5'
            clear R5' G5'
            refine wp_region_inv3e rfl (by kernel_rfl) (by kernel_rfl) (by kernel_rfl) (by kernel_rfl) (by simp) (fun _ w' => Below W0.heap.size W0 w') (fun j w' w'' => dsS j w' w'') (fact (dsF W0 (.slice (some ⟨gs, 0, none⟩) n c) xs gs ⟨r0, t0⟩)) dsCons (Below.refl _ _).drew ?hF ?grd ?oo ?cg ?fin
            case hF =>
              intro j i v w' w'' hS hc hne hwt hdp hf
              have hi : i < 9 ∨ 9 ≤ i := by omega
              rcases hi with hi | hi
              · obtain rfl | rfl | rfl | rfl | rfl | rfl | rfl | rfl | rfl : i = 0 ∨ i = 1 ∨ i = 2 ∨ i = 3 ∨ i = 4 ∨ i = 5 ∨ i = 6 ∨ i = 7 ∨ i = 8 := by omega
                · rcases hS with rfl | hb | ⟨rfl, b, hh, hg⟩ | rfl
                  · exact hf
                  · obtain ⟨b0, h1, h2, h3, h4⟩ := hf; exact ⟨b0, h1, h2, (hb.block b0 (Array.getElem?_eq_some_iff.1 h3).1).trans h3, h4.on hb⟩
                  · simp [dsCons] at hc
                  · have h9 := hdp _ rfl ⟨2, .data⟩ (by simp) rfl; simp [dsCons] at h9
                · exact hf
                · rcases hS with rfl | hb | ⟨rfl, b, hh, hg⟩ | rfl
                  · exact hf
                  · exact Own.on hf hb
                  · exact absurd rfl hne
                  · simp [dsCons] at hc
                · exact hf
                · exact hf
                · exact hf
                · rcases hS with rfl | hb | ⟨rfl, b, hh, hg⟩ | rfl
                  · exact hf
                  · obtain ⟨b0, h1, h2, h3⟩ := hf; exact ⟨b0, h1, h2, (hb.block b0 (Array.getElem?_eq_some_iff.1 h3).1).trans h3⟩
                  · obtain ⟨b0, h1, h2, h3⟩ := hf; exact ⟨b0, h1, h2, (hg.block b0 (Array.getElem?_eq_some_iff.1 h3).1 (some_ne' (by rintro rfl; rw [hh] at h3; simp at h3))).trans h3⟩
                  · simp [dsCons] at hc
                · rcases hS with rfl | hb | ⟨rfl, b, hh, hg⟩ | rfl
                  · exact hf
                  · exact Own.on hf hb
                  · exact own_far_emp hf hh hg (by simp <;> omega)
                  · exact absurd rfl hne
                · rcases hS with rfl | hb | ⟨rfl, b, hh, hg⟩ | rfl
                  · exact hf
                  · exact Own.on hf hb
                  · exact own_far_emp hf hh hg (by simp <;> omega)
                  · exact absurd (hwt.symm.trans (c := true) (by kernel_rfl)) (by decide)
              · unfold fact at *; rw [List.getD_eq_getElem?_getD, List.getElem?_eq_none (by simpa [dsF] using hi)]; trivial
            case grd =>
              intro i oo d bb hi hg v w' hf
              obtain ⟨hlt1, rfl⟩ := Array.getElem?_eq_some_iff.1 hi
              have hlt' : i < 9 := hlt1
              clear hi
              obtain rfl | rfl | rfl | rfl | rfl | rfl | rfl | rfl | rfl : i = 0 ∨ i = 1 ∨ i = 2 ∨ i = 3 ∨ i = 4 ∨ i = 5 ∨ i = 6 ∨ i = 7 ∨ i = 8 := by omega
              all_goals simp at hg
            case cg =>
              intro i oo d bb hi hg j
              obtain ⟨hlt1, rfl⟩ := Array.getElem?_eq_some_iff.1 hi
              have hlt' : i < 9 := hlt1
              clear hi
              obtain rfl | rfl | rfl | rfl | rfl | rfl | rfl | rfl | rfl : i = 0 ∨ i = 1 ∨ i = 2 ∨ i = 3 ∨ i = 4 ∨ i = 5 ∨ i = 6 ∨ i = 7 ∨ i = 8 := by omega
              all_goals simp at hg
            case oo =>
              intro i oo hi qn a' wk hnn hj hb' hd
              obtain ⟨hlt1, rfl⟩ := Array.getElem?_eq_some_iff.1 hi
              have hlt' : i < 9 := hlt1
              clear hi
              obtain rfl | rfl | rfl | rfl | rfl | rfl | rfl | rfl | rfl : i = 0 ∨ i = 1 ∨ i = 2 ∨ i = 3 ∨ i = 4 ∨ i = 5 ∨ i = 6 ∨ i = 7 ∨ i = 8 := by omega
              · exact iv_val (v := .slice (some ⟨wk.heap.size, 0, none⟩) 0 0) (w' := wk.alloc (.cells #[] 59)) (by simp [execOp, go_sem, Result.andThen]) ⟨_, rfl, hj.alloc hj.size _, .inr (.inl ((Below.refl _ _).alloc (Nat.le_refl _) _)), (show isEmpP _ _ _ from ⟨_, rfl, hj.size, heap_alloc_new _ _, Own.made _ hj.size⟩)⟩
              · have b6 : a'.eval (.tmp 6) = .slice (some ⟨gs, 0, none⟩) n c := hb' 6 (by kernel_rfl); have c6 := ev_get b6
                exact iv_val (v := .slice (some ⟨gs, 0, none⟩) n c) (by simp [execOp, b6]) ⟨_, rfl, hj, .inl rfl, rfl⟩
              · have e0 : isEmpP W0.heap.size (a'.eval (.tmp 63)) wk := hd ⟨0, .data⟩ (by simp) rfl (by intro j _ hc; revert hc; unfold dsCons; simp; try omega)
                obtain ⟨b0, v0, hb0, hh0, o0⟩ := e0
                have v1 : a'.eval (.tmp 64) = .slice (some ⟨gs, 0, none⟩) n c := hd ⟨1, .data⟩ (by simp) rfl (by intro j _ hc; revert hc; unfold dsCons; simp; try omega)
                obtain ⟨i0, hi0, hz0, hz1, hz2⟩ := info_parts info_pcO
                refine wp_cat (enc := encP) wk (.tmp 63) (.tmp 64) 23 rfl W0.heap.size 59 i0 _ 2 24 Tryz.underlying23 hi0 hz0 hz1 hz2 rfl (by decide) (a'.eval (.tmp 63)) (.slice (some ⟨gs, 0, none⟩) n c) [] xs rfl v1 o0 _ (HH.out.below hj (Nat.le_refl _)) encP_one (by have := HN.out; simp <;> omega) (by decide) hj.size ?_
                intro v' w' ho hg hg'
                rw [v0] at hg
                exact ⟨_, rfl, hj.grown hg hj.size (fun g hg1 => by simp [Value.ownBlock] at hg1; omega), .inr (.inr (.inl ⟨rfl, b0, hh0, hg⟩)), (show isOwnP _ _ _ _ from ho)⟩
              · have b6 : a'.eval (.tmp 6) = .slice (some ⟨gs, 0, none⟩) n c := hb' 6 (by kernel_rfl); have c6 := ev_get b6
                exact iv_val (v := .slice (some ⟨gs, 0, none⟩) n c) (by simp [execOp, b6]) ⟨_, rfl, hj, .inl rfl, rfl⟩
              · have v3 : a'.eval (.tmp 66) = .slice (some ⟨gs, 0, none⟩) n c := hd ⟨3, .data⟩ (by simp) rfl (by intro j _ hc; revert hc; unfold dsCons; simp; try omega); have u3 := ev_get v3
                exact iv_val (v := .pointer (some ⟨gs, 0, none⟩)) (by simp [execOp, u3, hn0, go_sem, Result.andThen]) ⟨_, rfl, hj, .inl rfl, rfl⟩
              · have v4 : a'.eval (.tmp 67) = .pointer (some ⟨gs, 0, none⟩) := hd ⟨4, .data⟩ (by simp) rfl (by intro j _ hc; revert hc; unfold dsCons; simp; try omega); have u4 := ev_get v4
                have x0 := (hj.cell (p := ⟨gs, 0, none⟩) hgs).trans k0
                have x1 := (hj.cell (p := ⟨gs, 1, none⟩) hgs).trans k1
                exact iv_val (v := .agg #[.int .i64 r0, .string t0]) (by simp [execOp, u4, x0, x1, go_sem, Result.andThen]) ⟨_, rfl, hj, .inl rfl, rfl⟩
              · have v5 : a'.eval (.tmp 68) = .agg #[.int .i64 r0, .string t0] := hd ⟨5, .data⟩ (by simp) rfl (by intro j _ hc; revert hc; unfold dsCons; simp; try omega); have u5 := ev_get v5
                exact iv_val (v := .slice (some ⟨wk.heap.size, 0, none⟩) 1 1) (w' := wk.alloc (.cells #[.int .i64 r0, .string t0] 59)) (by simp [execOp, u5, go_sem, Result.andThen]) ⟨_, rfl, hj.alloc hj.size _, .inr (.inl ((Below.refl _ _).alloc (Nat.le_refl _) _)), (show isLitP _ _ _ _ _ from ⟨_, rfl, hj.size, heap_alloc_new _ _⟩)⟩
              · have e4 : isOwnP W0.heap.size ([] ++ xs) (a'.eval (.tmp 65)) wk := hd ⟨2, .data⟩ (by simp) rfl (by intro j _ hc; revert hc; unfold dsCons; simp; try omega)
                have e8 : isLitP W0.heap.size r0 t0 (a'.eval (.tmp 69)) wk := hd ⟨6, .data⟩ (by simp) rfl (by intro j _ hc; revert hc; unfold dsCons; simp; try omega)
                obtain ⟨b8, v8, hb8, hh8⟩ := e8
                obtain ⟨i0, hi0, hz0, hz1, hz2⟩ := info_parts info_pcO
                refine wp_cat (enc := encP) wk (.tmp 65) (.tmp 69) 23 rfl W0.heap.size 59 i0 _ 2 24 Tryz.underlying23 hi0 hz0 hz1 hz2 rfl (by decide) (a'.eval (.tmp 65)) (.slice (some ⟨b8, 0, none⟩) 1 1) ([] ++ xs) [(⟨r0, t0⟩ : Pc)] rfl v8 e4 _ (lit_rdP hh8) encP_one (by have := HN.out; simp <;> omega) (by decide) hj.size ?_
                intro v' w' ho hg hg'
                exact ⟨_, rfl, hj.grown hg hj.size (fun g hg1 => (Own.lt e4 g hg1).1), .inr (.inr (.inr rfl)), (show isOwnP _ _ _ _ from ho)⟩
              · have e13 : isOwnP W0.heap.size ([] ++ xs ++ [(⟨r0, t0⟩ : Pc)]) (a'.eval (.tmp 70)) wk := hd ⟨7, .data⟩ (by simp) rfl (by intro j _ hc; revert hc; unfold dsCons; simp; try omega)
                exact iv_val (v := a'.eval (.tmp 70)) (by simp [execOp]) ⟨_, rfl, hj, .inl rfl, e13⟩
            case fin =>
              intro tm w9 hj hF
              have o15 : OwnP w9 W0.heap.size (tm.getD 6 undef) ([] ++ xs ++ [(⟨r0, t0⟩ : Pc)]) := hF 8 _ rfl (fun j => by unfold dsCons; simp)
              rw [List.nil_append] at o15
              clear hF
              simp only [refillL, List.setIfInBounds_toArray, List.set_cons_succ, List.set_cons_zero]
              obtain ⟨sv, hsv⟩ : ∃ sv, tm.getD 6 undef = sv := ⟨_, rfl⟩
              rw [hsv] at o15 ⊢
              clear hsv
              have O15 := hid o15
              have R15 := hid (R5.out.on hj)
              have G15 := hid (G5.out.trans (gb_of_below hj (some g)))
              clear o15 hj
              go_wp2
              go_ret2
              exact ⟨sv, _, root, _, rfl, O15.out.less hB0, fun h => (by have := HZ.out h; cases this), drawn_twice HG.out.1 hx0.out, by omega, R15.out, G15.out⟩
          · have hzd1 : (z == 1) = false := by simp [hz1']
            clear hz1'
            have hal5 : Below w5.heap.size w5 (w5.alloc (.cells #[] 59)) := (Below.refl _ _).alloc (Nat.le_refl _) _
            go_upto_region 9 with (at_builtin; refine wpList_cat (enc := encP) (w0 := w5.alloc (.cells #[] 59)) rfl _ _ 23 rfl w5.heap.size w5.heap.size 59 i0 _ 2 24 Tryz.underlying23 hi0 hz0 hz1 hz2 rfl (by decide) _ _ [] xs (Own.made w5 (Nat.le_refl _)) _ ((Rd.of_own O5.out).below hal5 (Nat.le_refl _)) (Below.refl _ _) (by simp) (Nat.le_refl _) rfl rfl encP_one (by have := HN.out; simp; omega) (by decide) ?_; intro v6 w6 hown' hb' hB' hg'; rw [List.nil_append] at hown'; obtain ⟨gt, ct, rfl, hgt0, hgt, hnct⟩ := own_pc_slice hown' HN.out hnp; have HO6 := hid hown'; have HB6 := hid (hal5.trans hb'); clear hown' hb' hg' hB')
            have b6 := HB6.out
            have hown' := HO6.out
            have O6 := hid (hown'.less (by omega : w.heap.size ≤ w5.heap.size))
            have R6 := hid (R5.out.on b6)
            have G6 := hid (G5.out.trans (gb_of_below b6 (some g)))
            have s6 := b6.size
            obtain ⟨j, rfl⟩ : ∃ j : Nat, n = j + 1 := ⟨n - 1, by omega⟩
            have hw1 : IntKind.i64.wrap (((j + 1 : Nat) : Int) - 1) = (j : Int) := by rw [show ((j + 1 : Nat) : Int) - 1 = (j : Int) by omega]; exact IntWalk.i64_in _ (by omega)
            have hw2 : ((j + 1 : Nat) : Int) - 1 = (j : Int) := by omega
            have hjn' : (j : Int) < ((j + 1 : Nat) : Int) := by omega
            obtain ⟨x, hx⟩ : ∃ x, xs[j]? = some x := ⟨xs[j]'(by have := HN.out; omega), List.getElem?_eq_getElem _⟩
            obtain ⟨o9, g9, ⟨y9, k9⟩, f9⟩ := own_pc_set (i := j * 2 + 1) (u := .string TURNED) O6.out HN.out (by omega) (setP_flat2 xs j x TURNED hx) (by simp [HN.out])
            have O9 := hid o9
            have HD := hid (drawn_text HG.out.1 HG.out.2 hx)
            have R9 := hid (R6.out.kept g9 (fun b hb => by simp at hb; omega))
            have G9 := hid (show w.grownBy (w6.setCell ⟨gt, j * 2 + 1, none⟩ (.string TURNED)) (some g) from gb_out G6.out g9 (fun b hb => .inr (by simp at hb; omega)))
            clear hown' HO6 HB6 b6 hal5 R5 G5 O5 o9 g9 hx
            go_wp2
            go_ret2
            exact ⟨_, _, root, _, rfl, O9.out, fun h => (by have := HZ.out h; cases this), HD.out, by omega, R9.out, G9.out⟩

end Go.Proofs.YtnaahincolooeaaGreatDoor

/- Walks: ways through folders, the reference's way. -/
namespace Go.Proofs.YtnaahincolooeaaGreatDoor
open Go.RowKit

set_option maxHeartbeats 2000000 in
set_option maxRecDepth 100000 in
theorem spec_ReadFile_e (s : ByteArray) (w : World) (hs : s.size ≤ 1000000) :
    Calls Tryz.prog 103 #[.string s] w fun e w' => e = .returned (.tuple #[.string (strL (fileC (bs s))), .bool (isFile (bs s))]) ∧ w = w' := by
  by_cases h0 : 0 < s.size
  · have hx := bs_get s h0
    have hcons : bs s = s[0] :: (bs s).drop 1 := by
      cases hb : bs s with
      | nil => rw [hb] at hx; cases hx
      | cons a r => rw [hb] at hx; simp at hx; rw [hx]; rfl
    have hF : isFile (bs s) = (decide (s[0] = 102) && contOk ((bs s).drop 1)) := by rw [hcons]; rfl
    have hem : s.toList.isEmpty = false := by
      rw [ByteArray.toList_eq]
      cases hb : s.data.toList with
      | nil => have : (bs s).length = 0 := by unfold bs; rw [hb]; rfl
               rw [bs_len] at this; omega
      | cons _ _ => rfl
    by_cases hc : s[0] = 102
    · have hd0 : (s[0].toNat : Int) = 102 := by rw [hc]; rfl
      have HX := hid (show s.extract 1 s.size = strL ((bs s).drop 1) by rw [ext_strL, List.take_of_length_le (by rw [bs_len]; omega)])
      have HE := hid (show bs (s.extract 1 s.size) = (bs s).drop 1 by rw [HX.out, bs_strL])
      have hse : (s.extract 1 s.size).size ≤ 1000000 := by rw [ByteArray.size_extract]; omega
      obtain ⟨y, hy⟩ : ∃ y, contOk (bs (s.extract 1 s.size)) = y := ⟨_, rfl⟩
      have HY := hid hy
      have HO := hid (show isFile (bs s) = y by rw [hF, ← hy, HE.out]; simp [hc])
      have HSE := hid hse
      clear hy hx hcons hF hse
      cases y
      · have HC := hid (fileC_no HO.out)
        go_enter Tryz.func103, Tryz.ntmps103
        go_wp2_with (go_at_call 79; refine (spec_ContentValid_c _ _ HSE.out).mono ?_; rw [HY.out]; rintro e w' ⟨rfl, rfl⟩)
        go_ret2
        exact ⟨by rw [HO.out, HC.out]; rfl, rfl⟩
      · have HC := hid (show strL (fileC (bs s)) = s.extract 1 s.size by unfold fileC; rw [HO.out, HX.out]; rfl)
        go_enter Tryz.func103, Tryz.ntmps103
        go_wp2_with (go_at_call 79; refine (spec_ContentValid_c _ _ HSE.out).mono ?_; rw [HY.out]; rintro e w' ⟨rfl, rfl⟩)
        go_ret2
        exact ⟨by rw [HO.out, HC.out]; rfl, rfl⟩
    · have hd0 : ¬ (s[0].toNat : Int) = 102 := by
        intro e
        have : s[0].toNat = 102 := by omega
        exact hc (UInt8.toNat_inj.1 this)
      have HO := hid (show isFile (bs s) = false by rw [hF]; simp [hc])
      have HC := hid (fileC_no HO.out)
      clear hx hcons hF hc
      go_enter Tryz.func103, Tryz.ntmps103
      go_wp2
      go_ret2
      exact ⟨by rw [HO.out, HC.out]; rfl, rfl⟩
  · have hem : s.toList.isEmpty = true := by
      rw [ByteArray.toList_eq]
      have : (bs s).length = 0 := by rw [bs_len]; omega
      unfold bs at this
      rw [List.length_eq_zero_iff.1 this]; rfl
    have HO := hid (show isFile (bs s) = false by
      have : bs s = [] := List.length_eq_zero_iff.1 (by rw [bs_len]; omega)
      rw [this]; rfl)
    have HC := hid (fileC_no HO.out)
    clear h0
    go_enter Tryz.func103, Tryz.ntmps103
    go_wp2
    go_ret2
    exact ⟨by rw [HO.out, HC.out]; rfl, rfl⟩

set_option maxHeartbeats 2000000 in
set_option maxRecDepth 100000 in
theorem spec_WalkTo_c (v : Value) (xs : List Pc) (root : Int) (path : ByteArray) (w : World) (R : Int × Bool) (hR : walkTo xs root (bs path) = R) (h : Pcs w w.heap.size v xs) (hx0 : ∀ x ∈ xs, x.text.size ≤ 1048576) (hl0 : xs.length ≤ 1048576) (hp0 : path.size ≤ 900) :
    Calls Tryz.prog 97 #[v, .int .i64 root, .string path] w fun e w' => e = .returned (.tuple #[.int .i64 R.1, .bool R.2]) ∧ Below w.heap.size w w' := by
  have HH := hid h
  have HR := hid hR
  have HX := hid hx0
  have HL := hid hl0
  obtain ⟨P, hP⟩ : ∃ P, pathParts (bs path) = P := ⟨_, rfl⟩
  have HP := hid hP
  clear h hR hx0 hl0 hP
  cases P with
  | none =>
    obtain rfl : R = (-1, false) := by rw [← HR.out]; exact walk_off (.inr HP.out)
    go_enter Tryz.func97, Tryz.ntmps97
    go_wp2_with fail
    refine (spec_PathParts_c path _ hp0).mono ?_
    rw [HP.out]
    rintro e w1 ⟨pv, rfl, o1, b1⟩
    clear o1
    go_wp2
    go_ret2
    exact ⟨rfl, b1⟩
  | some ws =>
    obtain ⟨k, hk⟩ : ∃ k, storeOk xs = k := ⟨_, rfl⟩
    have HK := hid hk
    cases k
    · obtain rfl : R = (-1, false) := by rw [← HR.out]; exact walk_off (.inl hk)
      clear hk
      go_enter Tryz.func97, Tryz.ntmps97
      go_wp2_with fail
      refine (spec_PathParts_c path _ hp0).mono ?_
      rw [HP.out]
      rintro e w1 ⟨pv, rfl, o1, b1⟩
      clear o1
      go_wp2_with fail
      refine (spec_StoreValid_c _ xs _ _ (HH.out.on b1) HX.out HL.out).mono ?_
      rw [HK.out]
      rintro e w2 ⟨rfl, z, rfl⟩
      have d2 := bl_drewN b1 z
      clear b1
      go_wp2
      go_ret2
      exact ⟨rfl, d2⟩
    · have HW := hid (show walkAt xs root (ws.map strL) = R by rw [← HR.out]; exact (walk_on hk HP.out).symm)
      clear hk HR
      go_enter Tryz.func97, Tryz.ntmps97
      go_wp2_with fail
      refine (spec_PathParts_c path _ hp0).mono ?_
      rw [HP.out]
      rintro e w1 ⟨pv, rfl, o1, b1⟩
      have R1 : Hid (Strs w1 w1.heap.size pv (ws.map strL)) := hid (Rd.of_own o1)
      clear o1
      go_wp2_with fail
      refine (spec_StoreValid_c _ xs _ _ (HH.out.on b1) HX.out HL.out).mono ?_
      rw [HK.out]
      rintro e w2 ⟨rfl, z, rfl⟩
      have d2 := bl_drewN b1 z
      have R2 := hid (R1.out.drewN z)
      clear b1 R1
      go_wp2_with fail
      refine (spec_l9Walk_c _ _ xs root (ws.map strL) _ R HW.out (HH.out.on d2) HK.out R2.out).mono ?_
      rintro e w3 ⟨rfl, b3⟩
      have d3 := bl_then d2 b3
      clear b3 d2
      go_wp2
      go_ret2
      exact ⟨rfl, d3⟩



end Go.Proofs.YtnaahincolooeaaGreatDoor
