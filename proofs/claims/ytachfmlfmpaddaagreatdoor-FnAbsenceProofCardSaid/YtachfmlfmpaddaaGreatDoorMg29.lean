/- Walks and plain facts, joined: WalkI, DrawSt. -/
import Derived.Test.YtachfmlfmpaddaaGreatDoorMg6
import Derived.Test.YtachfmlfmpaddaaGreatDoorMg14
import Derived.Test.YtachfmlfmpaddaaGreatDoorMg22
import Derived.Test.YtachfmlfmpaddaaGreatDoorMg24
import Derived.Test.YtachfmlfmpaddaaGreatDoorMg28
set_option linter.unusedVariables false
set_option linter.unusedSimpArgs false

/- Walks: ways through folders, the program's way. -/
namespace Go.Proofs.YtachfmlfmpaddaaGreatDoor
open Go.RowKit

noncomputable def walkTo (xs : List Pc) (root : Int) (path : List UInt8) : Int × Bool :=
  if storeOk xs = true then (match pathParts path with | some ws => walkAt xs root (ws.map strL) | none => (-1, false)) else (-1, false)
noncomputable def readAt (xs : List Pc) (root : Int) (path : List UInt8) : List UInt8 × Bool :=
  if (walkTo xs root path).2 = true then (fileC (textAt xs (walkTo xs root path).1), isFile (textAt xs (walkTo xs root path).1)) else ([], false)
theorem textAt_none {xs : List Pc} {y : Int} (h : hasP xs y = false) : textAt xs y = [] := by
  unfold textAt
  have hg : getP xs y = none := by unfold hasP at h; simpa using h
  rw [hg]; rfl
theorem folderAt_none {xs : List Pc} {y : Int} (h : hasP xs y = false) : folderAt xs y = none := by rw [← folderAt_text, textAt_none h]; exact readFolder_emp

set_option maxHeartbeats 2000000 in
set_option maxRecDepth 100000 in
theorem impl_folderOf_c (v : Value) (xs : List Pc) (y : Int) (w : World) (F : Option (List Ent)) (hF : folderAt xs y = F) (h : Pcs w w.heap.size v xs) (hs : storeOk xs = true) (hg : Glob w) :
    Calls Tryz.prog 78 #[v, .int .i64 y] w fun e w' => ∃ v', e = .returned (.tuple #[v', .bool F.isSome]) ∧ OwnE w' w.heap.size v' (F.getD []) ∧ Below w.heap.size w w' := by
  have HH := hid h
  have HS := hid hs
  have HG := hid hg
  have HT := hid (text_small hs y)
  obtain ⟨p, hp⟩ : ∃ p, hasP xs y = p := ⟨_, rfl⟩
  have HP := hid hp
  have HF := hid hF
  clear h hs hg hp hF
  cases p
  · obtain rfl : F = none := by rw [← HF.out]; exact folderAt_none HP.out
    go_enter Tryz.func78, Tryz.ntmps78
    go_wp2_with fail
    refine (impl_textOf_c _ xs y _ HH.out HS.out).mono ?_
    rw [HP.out]
    rintro e w1 ⟨rfl, b1⟩
    go_wp2
    go_ret2
    exact ⟨_, rfl, Own.nil_, b1⟩
  · have HE := hid (show entsOf (bs ((getP xs y).getD ByteArray.empty)) = F.getD [] by rw [← HF.out]; exact entsOf_at xs y)
    have HI := hid (show (readFolder (bs ((getP xs y).getD ByteArray.empty))).isSome = F.isSome by rw [← HF.out, ← folderAt_text]; rfl)
    obtain ⟨T, hT⟩ : ∃ T, (getP xs y).getD ByteArray.empty = T := ⟨_, rfl⟩
    rw [hT] at HE HI HT
    have HTT := hid hT
    obtain ⟨f, hf⟩ : ∃ f, F.isSome = f := ⟨_, rfl⟩
    obtain ⟨es, hes⟩ : ∃ es, F.getD [] = es := ⟨_, rfl⟩
    rw [hf] at HI
    rw [hes] at HE
    rw [hf, hes]
    clear hT hf hes
    go_enter Tryz.func78, Tryz.ntmps78
    go_wp2_with fail
    refine (impl_textOf_c _ xs y _ HH.out HS.out).mono ?_
    rw [HP.out, HTT.out]
    rintro e w1 ⟨rfl, b1⟩
    go_wp2_with fail
    refine (impl_ReadFolder_c T _ (Nat.le_trans HT.out (by omega)) (HG.out.on b1)).mono ?_
    rw [HE.out, HI.out]
    rintro e w2 ⟨lv, rfl, o2, b2⟩
    have O2 := hid (o2.less b1.size)
    have d2 := bl_then b1 b2
    clear o2 b1 b2
    go_wp2
    go_ret2
    exact ⟨_, rfl, O2.out, d2⟩

set_option maxHeartbeats 2000000 in
set_option maxRecDepth 100000 in
theorem impl_fileOf_c (v : Value) (xs : List Pc) (y : Int) (w : World) (h : Pcs w w.heap.size v xs) (hs : storeOk xs = true) :
    Calls Tryz.prog 69 #[v, .int .i64 y] w fun e w' => e = .returned (.tuple #[.string (strL (fileC (textAt xs y))), .bool (isFile (textAt xs y))]) ∧ Below w.heap.size w w' := by
  have HH := hid h
  have HS := hid hs
  have HT := hid (text_small hs y)
  obtain ⟨p, hp⟩ : ∃ p, hasP xs y = p := ⟨_, rfl⟩
  have HP := hid hp
  clear h hs hp
  cases p
  · have HF := hid (textAt_none HP.out)
    go_enter Tryz.func69, Tryz.ntmps69
    go_wp2_with fail
    refine (impl_textOf_c _ xs y _ HH.out HS.out).mono ?_
    rw [HP.out]
    rintro e w1 ⟨rfl, b1⟩
    go_wp2
    go_ret2
    exact ⟨by rw [HF.out]; rfl, b1⟩
  · obtain ⟨T, hT⟩ : ∃ T, (getP xs y).getD ByteArray.empty = T := ⟨_, rfl⟩
    rw [hT] at HT
    have HTT := hid hT
    have HTX := hid (show textAt xs y = bs T by unfold textAt; rw [hT])
    clear hT
    go_enter Tryz.func69, Tryz.ntmps69
    go_wp2_with fail
    refine (impl_textOf_c _ xs y _ HH.out HS.out).mono ?_
    rw [HP.out, HTT.out]
    rintro e w1 ⟨rfl, b1⟩
    go_wp2_with fail
    refine (impl_ReadFile_c T _ (Nat.le_trans HT.out (by omega))).mono ?_
    rintro e w2 ⟨rfl, rfl⟩
    go_wp2
    go_ret2
    exact ⟨by rw [HTX.out]; rfl, b1⟩

theorem walk_off {xs : List Pc} {root : Int} {path : List UInt8} (h : storeOk xs = false ∨ pathParts path = none) : walkTo xs root path = (-1, false) := by
  unfold walkTo
  rcases h with h | h
  · rw [h]; rfl
  · rw [h]; split <;> rfl
theorem walk_on {xs : List Pc} {root : Int} {path : List UInt8} {ws : List (List UInt8)} (h : storeOk xs = true) (hp : pathParts path = some ws) : walkTo xs root path = walkAt xs root (ws.map strL) := by
  unfold walkTo; rw [h, hp]; rfl

set_option maxHeartbeats 2000000 in
set_option maxRecDepth 100000 in
theorem impl_WalkTo_c (v : Value) (xs : List Pc) (root : Int) (path : ByteArray) (w : World) (R : Int × Bool) (hR : walkTo xs root (bs path) = R) (h : Pcs w w.heap.size v xs) (hp0 : path.size ≤ 1000) (hg : Glob w) (hm : Mx w) :
    Calls Tryz.prog 30 #[v, .int .i64 root, .string path] w fun e w' => e = .returned (.tuple #[.int .i64 R.1, .bool R.2]) ∧ Below w.heap.size w w' := by
  have HH := hid h
  have HR := hid hR
  have HG := hid hg
  obtain ⟨P, hP⟩ : ∃ P, pathParts (bs path) = P := ⟨_, rfl⟩
  have HP := hid hP
  clear h hR hg hP
  cases P with
  | none =>
    obtain rfl : R = (-1, false) := by rw [← HR.out]; exact walk_off (.inr HP.out)
    go_enter Tryz.func30, Tryz.ntmps30
    go_wp2_with fail
    refine (impl_PathParts_c path _ hp0 hm).mono ?_
    rw [HP.out]
    rintro e w1 ⟨pv, rfl, o1, b1⟩
    clear o1
    go_wp2
    go_ret2
    exact ⟨rfl, b1⟩
  | some ws =>
    cases hok : storeOk xs
    · obtain rfl : R = (-1, false) := by rw [← HR.out]; exact walk_off (.inl hok)
      have HK := hid hok
      clear hok
      go_enter Tryz.func30, Tryz.ntmps30
      go_wp2_with fail
      refine (impl_PathParts_c path _ hp0 hm).mono ?_
      rw [HP.out]
      rintro e w1 ⟨pv, rfl, o1, b1⟩
      clear o1
      go_wp2_with fail
      refine (impl_StoreValid_c _ xs _ (HH.out.on b1)).mono ?_
      rw [HK.out]
      rintro e w2 ⟨rfl, b2⟩
      have d2 := bl_then b1 b2
      clear b1 b2
      go_wp2
      go_ret2
      exact ⟨rfl, d2⟩
    have HS := hid hok
    have HW := hid (show walkAt xs root (ws.map strL) = R by rw [← HR.out]; exact (walk_on hok HP.out).symm)
    have HPS := hid (parts_small HP.out)
    obtain ⟨m, hml⟩ : ∃ m, (ws.map strL).length = m := ⟨_, rfl⟩
    have HM := hid hml
    have hm3 : m ≤ 3 := by rw [← hml]; exact HPS.out.2
    clear hok hml HR
    go_enter Tryz.func30, Tryz.ntmps30
    go_wp2_with fail
    refine (impl_PathParts_c path _ hp0 hm).mono ?_
    rw [HP.out]
    rintro e w1 ⟨pv, rfl, o1, b1⟩
    have r1 : Strs w1 w1.heap.size pv (ws.map strL) := Rd.of_own o1
    obtain ⟨pa, pc, rfl, _, _, hp3⟩ := r1.strs HM.out
    have HP3 := hid hp3
    have H1 := hid (HH.out.on b1)
    clear o1 r1 hp3
    go_wp2_with fail
    refine (impl_StoreValid_c _ xs _ H1.out).mono ?_
    rw [HS.out]
    rintro e w2 ⟨rfl, b2⟩
    have d2 := bl_then b1 b2
    go_wp2
    go_loopw [10, 12, 13, 14, 15, 16, 34] (fun q _ _ _ _ _ i wr => ∃ (k : Nat) (y : Int), k ≤ m ∧ i = .int .i64 k ∧ q = .int .i64 y ∧ Hid (walkAt xs y ((ws.map strL).drop k) = R) ∧ Below w1.heap.size w1 wr) (fun _ _ _ _ _ _ i _ => m - (intOf i).toNat)
    case atStart => exact ⟨0, root, Nat.zero_le _, rfl, rfl, hid (by simpa using HW.out), b2⟩
    case round =>
      obtain ⟨k, y, hk, rfl, rfl, hw, hb⟩ := hrel
      have hb0 := bl_then b1 hb
      have X := hid (HH.out.on hb0)
      clear b2 d2
      by_cases hlt : k < m
      · obtain ⟨bp, op, nm, rfl, hbp, hx, kp⟩ := HP3.out k hlt
        have kq := (hb.cell (p := ⟨bp, op + k, none⟩) hbp).trans kp
        have HD := hid (show walkAt xs y (nm :: (ws.map strL).drop (k + 1)) = R by rw [← drop_cons hx.out]; exact hw.out)
        have hkm : (k : Int) < m := by omega
        obtain ⟨F, hF⟩ : ∃ F, folderAt xs y = F := ⟨_, rfl⟩
        have HF := hid hF
        have HE := hid (show entsOf (textAt xs y) = F.getD [] by rw [entsOf_at, hF])
        clear hw kp hF
        go_wp2_with fail
        refine (impl_folderOf_c _ xs y _ F HF.out X.out HS.out (HG.out.on hb0)).mono ?_
        rintro e w3 ⟨lv, rfl, o3, b3⟩
        have d3 := bl_then hb b3
        cases F with
        | none =>
          obtain rfl : R = (-1, false) := by rw [← HD.out]; exact walk_no (by rw [HE.out]; rfl)
          have d30 := bl_then b1 d3
          clear o3 b3 d3
          go_wp2
          go_ret2
          exact ⟨rfl, d30⟩
        | some es =>
          have L3 := hid (Rd.of_own o3)
          obtain ⟨Q, hQ⟩ : ∃ Q, firstOf es nm = Q := ⟨_, rfl⟩
          have HQ := hid hQ
          have HEO := hid (folderAt_ok HF.out)
          obtain ⟨n3, hn3⟩ : ∃ n3, es.length = n3 := ⟨_, rfl⟩
          obtain ⟨la, lc, rfl, _, _, _⟩ := (Rd.of_own o3).ents hn3
          clear o3 b3 hQ hn3
          go_wp2_with fail
          refine (impl_printNamed_c _ es nm _ Q HQ.out L3.out HEO.out).mono ?_
          rintro e w4 ⟨rfl, b4⟩
          have d4 := bl_then d3 b4
          clear b4 d3
          cases Q with
          | none =>
            obtain rfl : R = (-1, false) := by rw [← HD.out]; exact walk_no (by rw [HE.out]; exact HQ.out)
            have d40 := bl_then b1 d4
            clear d4
            go_wp2
            go_ret2
            exact ⟨rfl, d40⟩
          | some ch =>
            have HN := hid (show walkAt xs ch ((ws.map strL).drop (k + 1)) = R by rw [← HD.out]; exact (walk_some (by rw [HE.out]; exact HQ.out)).symm)
            go_wp2
            go_roundw
            case rel => exact ⟨k + 1, ch, by omega, by go_num, rfl, HN, d4⟩
            case measure => simp [intOf]; omega
      · have HD := hid (show walkAt xs y [] = R by rw [← hw.out, List.drop_of_length_le (by have := HM.out; omega)])
        have hlt' : ¬ ((k : Int) < m) := by omega
        clear hw
        cases hp : hasP xs y
        · obtain rfl : R = (-1, false) := by rw [← HD.out]; unfold walkAt; rw [hp]; rfl
          have HHP := hid hp
          clear hp
          go_wp2_with fail
          refine (impl_textOf_c _ xs y _ X.out HS.out).mono ?_
          rw [HHP.out]
          rintro e w3 ⟨rfl, b3⟩
          have d3 := bl_then hb0 b3
          clear b3
          go_wp2
          go_ret2
          exact ⟨rfl, d3⟩
        · obtain rfl : R = (y, true) := by rw [← HD.out]; unfold walkAt; rw [hp]; rfl
          have HHP := hid hp
          clear hp
          go_wp2_with fail
          refine (impl_textOf_c _ xs y _ X.out HS.out).mono ?_
          rw [HHP.out]
          rintro e w3 ⟨rfl, b3⟩
          have d3 := bl_then hb0 b3
          clear b3
          go_wp2
          go_ret2
          exact ⟨rfl, d3⟩

set_option maxHeartbeats 2000000 in
set_option maxRecDepth 100000 in
theorem impl_ReadAt_c (v : Value) (xs : List Pc) (root : Int) (path : ByteArray) (w : World) (h : Pcs w w.heap.size v xs) (hp0 : path.size ≤ 1000) (hg : Glob w) (hm : Mx w) :
    Calls Tryz.prog 20 #[v, .int .i64 root, .string path] w fun e w' => e = .returned (.tuple #[.string (strL (readAt xs root (bs path)).1), .bool (readAt xs root (bs path)).2]) ∧ Below w.heap.size w w' := by
  have HH := hid h
  obtain ⟨⟨y, ok⟩, hR⟩ : ∃ R, walkTo xs root (bs path) = R := ⟨_, rfl⟩
  have HR := hid hR
  have hRA := hid (show readAt xs root (bs path) = if ok = true then (fileC (textAt xs y), isFile (textAt xs y)) else ([], false) by unfold readAt; rw [hR])
  clear h
  cases ok
  · clear hR
    go_enter Tryz.func20, Tryz.ntmps20
    go_wp2_with fail
    refine (impl_WalkTo_c _ xs root path _ _ HR.out HH.out hp0 hg hm).mono ?_
    rintro e w1 ⟨rfl, b1⟩
    go_wp2
    go_ret2
    exact ⟨by rw [hRA.out]; rfl, b1⟩
  · have HS := hid (show storeOk xs = true by
      cases hok : storeOk xs
      · rw [walk_off (.inl hok)] at hR; cases hR
      · rfl)
    clear hR
    go_enter Tryz.func20, Tryz.ntmps20
    go_wp2_with fail
    refine (impl_WalkTo_c _ xs root path _ _ HR.out HH.out hp0 hg hm).mono ?_
    rintro e w1 ⟨rfl, b1⟩
    go_wp2_with fail
    refine (impl_fileOf_c _ xs y _ (HH.out.on b1) HS.out).mono ?_
    rintro e w2 ⟨rfl, b2⟩
    have d2 := bl_then b1 b2
    clear b1 b2
    go_wp2
    go_ret2
    exact ⟨by rw [hRA.out]; rfl, d2⟩

end Go.Proofs.YtachfmlfmpaddaaGreatDoor

/- Walks: drawn paths, contents, steps and stores. -/
namespace Go.Proofs.YtachfmlfmpaddaaGreatDoor
open Go.RowKit

def pathB (s : ByteArray) : Bool := decide (bs s = [47]) || (match pathParts (bs s) with | some (_ :: _) => true | _ => false)
def pathS (s : ByteArray) : Bool := decide (s.size ≤ 12) && pathB s
def sizeS (s : ByteArray) : Bool := decide (s.size ≤ 12)
def contS (s : ByteArray) : Bool := decide (s.size ≤ 12) && contOk (bs s)
def allP (p : ByteArray → Bool) (l : List Value) : Bool := l.all fun v => match v with | .string s => p s | _ => false
theorem strP_cell {p : ByteArray → Bool} {cs : Array Value} {t : TypeId} (h : allP p cs.toList = true) {j : Nat} (hj : j < cs.size) : ∃ s : ByteArray, p s = true ∧ ∀ (W : World) (b : Nat), W.heap[b]? = some (.cells cs t (0, 0)) → W.cell? ⟨b, j, none⟩ = some (.string s) := by
  have hm : cs[j] ∈ cs.toList := by simp
  have h1 := List.all_eq_true.1 h _ hm
  cases hv : cs[j] with
  | string s =>
    rw [hv] at h1
    exact ⟨s, h1, fun W b hW => by simp [World.cell?, hW, hj, hv]⟩
  | _ => rw [hv] at h1; cases h1
def allI (lo hi : Int) (l : List Value) : Bool := l.all fun v => match v with | .int .i64 x => decide (lo ≤ x) && decide (x ≤ hi) | _ => false
theorem intI_cell {lo hi : Int} {cs : Array Value} {t : TypeId} (h : allI lo hi cs.toList = true) {j : Nat} (hj : j < cs.size) : ∃ x : Int, lo ≤ x ∧ x ≤ hi ∧ ∀ (W : World) (b : Nat), W.heap[b]? = some (.cells cs t (0, 0)) → W.cell? ⟨b, j, none⟩ = some (.int .i64 x) := by
  have hm : cs[j] ∈ cs.toList := by simp
  have h1 := List.all_eq_true.1 h _ hm
  cases hv : cs[j] with
  | int k x =>
    rw [hv] at h1
    cases k <;> simp at h1
    exact ⟨x, h1.1, h1.2, fun W b hW => by simp [World.cell?, hW, hj, hv]⟩
  | _ => rw [hv] at h1; cases h1

/-- A path; the reader has been asked at most twice more. -/
def PathD (n : Int) (w : World) (g : Nat) (l : List Int) (p : Nat) (e : Ending) (w' : World) : Prop :=
  ∃ (s : ByteArray) (p' : Nat), e = .returned (.string s) ∧ s.size ≤ 12 ∧ (n ≤ 0 → pathB s = true) ∧ p' ≤ p + 2 ∧ Reader w' g l p' ∧ w.grownBy w' (some g)

set_option maxHeartbeats 2000000 in
set_option maxRecDepth 100000 in
theorem spec_l20Path_c (g p : Nat) (l : List Int) (n : Int) (w : World) (h : Reader w g l p) (hp : p ≤ 109951162777) (hn0 : 0 ≤ n) (hn9 : n ≤ 1000000) :
    Calls Tryz.prog 129 #[.pointer (some ⟨g, 0, none⟩), .int .i64 n] w (PathD n w g l p) := by
  go_enter Tryz.func129, Tryz.ntmps129
  go_wp2_with fail
  refine (spec_odd_c g p l n _ h (by omega) hn0 hn9).mono ?_
  rintro e w1 ⟨x, p1, rfl, hx0, hp1, r1, g1⟩
  have hgl : g < w1.heap.size := r1.lt
  have R := hid r1
  have G1 := hid g1
  have HX0 := hid hx0
  clear r1 h g1 hx0
  cases x
  · go_wp2_with fail
    refine (spec_pick_c g p1 l 13 _ ((R.out.alloc _).alloc _) (by omega)).mono ?_
    rintro e w2 ⟨x, rfl, x0, x3, _, r2, g2⟩
    have hhA := (g2.block w1.heap.size (by simp; omega) (some_ne (by omega))).trans ((Below.heap_alloc _ _ _ (by simp)).trans (heap_alloc_new w1 _))
    have hhB := (g2.block (w1.heap.size + 1) (by simp) (some_ne (by omega))).trans (second_heap w1 _ _)
    have x3' := x3 (by omega)
    obtain ⟨j, rfl⟩ : ∃ j : Nat, x = j := ⟨x.toNat, by omega⟩
    have hj : j < 13 := by omega
    obtain ⟨z, z0, z1, hz⟩ := intI_cell (lo := 0) (hi := 7) (t := 3) (cs := #[.int .i64 0, .int .i64 1, .int .i64 2, .int .i64 3, .int .i64 4, .int .i64 5, .int .i64 6, .int .i64 7, .int .i64 0, .int .i64 1, .int .i64 2, .int .i64 3, .int .i64 4]) (by rfl) hj
    obtain ⟨i, rfl⟩ : ∃ i : Nat, z = i := ⟨z.toNat, by omega⟩
    have hi : i < 8 := by omega
    obtain ⟨s, hs, hs0⟩ := strP_cell (p := pathS) (t := 9) (cs := #[.string ⟨#[47, 97]⟩, .string ⟨#[47, 98]⟩, .string ⟨#[47, 99]⟩, .string ⟨#[47, 97, 47, 98]⟩, .string ⟨#[47, 98, 47, 97]⟩, .string ⟨#[47, 98, 47, 98, 47, 97]⟩, .string ⟨#[47, 97, 47, 98, 47, 99]⟩, .string ⟨#[47]⟩]) (by decide +kernel) hi
    have hcB := hz _ _ hhB
    have hcA := hs0 _ _ hhA
    have HS := hid hs
    have G2 := hid g2
    have R2 := hid r2
    clear hz hs0 hhA hhB x3 g2 r2 hs
    go_wp2
    go_ret
    have hss := HS.out
    unfold pathS at hss
    rw [Bool.and_eq_true, decide_eq_true_eq] at hss
    exact ⟨_, _, rfl, hss.1, fun _ => hss.2, by omega, R2.out, G1.out.trans (gb_unalloc (gb_unalloc G2.out))⟩
  · go_wp2_with fail
    refine (spec_pick_c g p1 l 6 _ (R.out.alloc _) (by omega)).mono ?_
    rintro e w2 ⟨x, rfl, x0, x3, _, r2, g2⟩
    have hh := (g2.block w1.heap.size (by simp) (some_ne (by omega))).trans (heap_alloc_new w1 _)
    have x3' := x3 (by omega)
    obtain ⟨j, rfl⟩ : ∃ j : Nat, x = j := ⟨x.toNat, by omega⟩
    have hj : j < 6 := by omega
    obtain ⟨s, hs, h0⟩ := strP_cell (p := sizeS) (t := 9) (cs := #[.string ⟨#[]⟩, .string ⟨#[97]⟩, .string ⟨#[47, 47]⟩, .string ⟨#[47, 97, 47]⟩, .string ⟨#[47, 65]⟩, .string ⟨#[47, 97, 47, 98, 47, 99, 47, 100]⟩]) (by rfl) hj
    have hc := h0 _ _ hh
    have HS := hid hs
    have G2 := hid g2
    have R2 := hid r2
    clear h0 hh x3 g2 r2 hs
    go_wp2
    go_ret
    exact ⟨_, _, rfl, of_decide_eq_true HS.out, fun h => (by have := HX0.out h; cases this), by omega, R2.out, G1.out.trans (gb_unalloc G2.out)⟩

def ContD (w : World) (g : Nat) (l : List Int) (p : Nat) (e : Ending) (w' : World) : Prop :=
  ∃ (s : ByteArray), e = .returned (.string s) ∧ contS s = true ∧ Reader w' g l (p + 1) ∧ w.grownBy w' (some g)

set_option maxHeartbeats 2000000 in
set_option maxRecDepth 100000 in
theorem spec_l20Content_c (g p : Nat) (l : List Int) (w : World) (h : Reader w g l p) (hp : p ≤ 109951162777) :
    Calls Tryz.prog 99 #[.pointer (some ⟨g, 0, none⟩)] w (ContD w g l p) := by
  have hgl : g < w.heap.size := h.lt
  have R := hid h
  clear h
  go_enter Tryz.func99, Tryz.ntmps99
  go_wp2_with fail
  refine (spec_pick_c g p l 4 _ (R.out.alloc _) (by omega)).mono ?_
  rintro e w2 ⟨x, rfl, x0, x3, _, r2, g2⟩
  have hh := (g2.block w.heap.size (by simp) (some_ne (by omega))).trans (heap_alloc_new w _)
  have x3' := x3 (by omega)
  obtain ⟨j, rfl⟩ : ∃ j : Nat, x = j := ⟨x.toNat, by omega⟩
  have hj : j < 4 := by omega
  obtain ⟨s, hs, h0⟩ := strP_cell (p := contS) (t := 9) (cs := #[.string ⟨#[104, 105]⟩, .string ⟨#[114, 101, 100, 32, 103, 114, 101, 101, 110]⟩, .string ⟨#[]⟩, .string ⟨#[120]⟩]) (by decide +kernel) hj
  have hc := h0 _ _ hh
  have HS := hid hs
  have G2 := hid g2
  have R2 := hid r2
  clear h0 hh x3 g2 r2 hs
  go_wp2
  go_ret
  exact ⟨_, rfl, HS.out, R2.out, gb_unalloc G2.out⟩

/-- A good store that is not empty. -/
def Good1 (l : List Pc) : Prop := Good l ∧ l ≠ []
theorem Good1.le {a b : List Pc} (h : Good1 a) (hb : Good b) (hl : Le a b) : Good1 b := by
  refine ⟨hb, ?_⟩
  rintro rfl
  have := hl.len h.1.1 hb.1
  have h0 := h.2
  cases a with
  | nil => exact h0 rfl
  | cons x r => simp at this
theorem Good.small {l : List Pc} (h : Good l) : (∀ x ∈ l, x.text.size ≤ 1048576) ∧ l.length ≤ 1048576 := ⟨fun x hx => by have := st_text h.1 hx; omega, by have := (st_in h.1).1; omega⟩
theorem path_cases {s : ByteArray} (h : pathB s = true) : bs s = [47] ∨ ∃ ws, pathParts (bs s) = some ws ∧ ws ≠ [] := by
  unfold pathB at h
  rw [Bool.or_eq_true, decide_eq_true_eq] at h
  rcases h with h | h
  · exact .inl h
  · cases hp : pathParts (bs s) with
    | none => rw [hp] at h; cases h
    | some ws =>
      rw [hp] at h
      cases ws with
      | nil => cases h
      | cons x r => exact .inr ⟨_, rfl, by simp⟩

def StepD (w : World) (g B : Nat) (l : List Int) (p : Nat) (e : Ending) (w' : World) : Prop :=
  ∃ (v : Value) (xs : List Pc) (root : Int) (ok : Bool) (p' : Nat), e = .returned (.tuple #[v, .int .i64 root, .bool ok]) ∧ OwnP w' B v xs ∧ Good1 xs ∧ p' ≤ p + 4 ∧ Reader w' g l p' ∧ w.grownBy w' (some g)

set_option maxHeartbeats 2000000 in
set_option maxRecDepth 100000 in
theorem spec_l20Step_c (g p B : Nat) (l : List Int) (v : Value) (xs : List Pc) (root : Int) (w : World) (h : Reader w g l p) (hp : p ≤ 10995116277) (ho : OwnP w B v xs) (hg : g < B) (hB : B ≤ w.heap.size) (hx : Good1 xs) :
    Calls Tryz.prog 157 #[.pointer (some ⟨g, 0, none⟩), v, .int .i64 root] w (StepD w g B l p) := by
  have HX := hid hx
  have HO := hid ho
  clear ho hx
  go_enter Tryz.func157, Tryz.ntmps157
  go_wp2_with fail
  refine (spec_l20Path_c g p l 0 _ h (by omega) (by omega) (by omega)).mono ?_
  rintro e w1 ⟨s, p1, rfl, hs12, hpb, hp1, r1, g1⟩
  have R1 := hid r1
  have G1 := hid g1
  have O1 := hid (HO.out.far g1 (fun b hb => by simp at hb; omega))
  have s1 := g1.size
  have HPC := hid (path_cases (hpb (by omega)))
  have HPB := hid hpb
  have hb1 := str_beq' s [47]
  rw [show (strL [47]).toList = [47] by rw [ByteArray.toList_eq]; rfl] at hb1
  clear r1 g1 h HO hpb
  by_cases h47 : bs s = [47]
  · have hq : (s.toList == [47]) = true := by rw [hb1]; exact decide_eq_true h47
    clear hb1 h47
    go_wp2
    go_ret3
    exact ⟨_, xs, root, false, p1, rfl, O1.out, HX.out, by omega, R1.out, G1.out⟩
  · have hq : (s.toList == [47]) = false := by rw [hb1]; exact decide_eq_false h47
    obtain ⟨ws, hws, hw0⟩ : ∃ ws, pathParts (bs s) = some ws ∧ ws ≠ [] := by
      rcases HPC.out with h | h
      · exact absurd h h47
      · exact h
    have HWS := hid hws
    have HW0 := hid hw0
    clear hb1 h47 hws hw0
    go_wp2_with fail
    refine (spec_pick_c g p1 l 5 _ R1.out (by omega)).mono ?_
    rintro e w2 ⟨x, rfl, x0, x3, _, r2, g2⟩
    have R2 := hid r2
    have G2 := hid (G1.out.trans g2)
    have O2 := hid (O1.out.far g2 (fun b hb => by simp at hb; omega))
    have s2 := g2.size
    clear r2 g2 O1 R1 G1 x3
    by_cases hx0 : x = 0
    · have hxd : (x == 0) = true := by simp [hx0]
      clear hx0 x0
      obtain ⟨R, hR⟩ : ∃ R, dropAt xs root (bs s) = R := ⟨_, rfl⟩
      have HG := hid (show Good R.1 ∧ Le xs R.1 by rw [← hR]; exact dropAt_good HX.out.1 HWS.out HW0.out)
      have HR := hid hR
      obtain ⟨xs', root', ok⟩ := R
      clear hR
      go_wp2_with fail
      refine (spec_DropAt_c _ xs root s _ (xs', root', ok) HR.out (Rd.of_own O2.out) HX.out.1.small.1 HX.out.1.small.2 (by omega)).mono ?_
      rintro e w3 ⟨v', rfl, o3, b3⟩
      have O3 := hid (o3.less (by omega : B ≤ w2.heap.size))
      have R3 := hid (R2.out.on b3)
      have G3 := hid (G2.out.trans (gb_of_below b3 (some g)))
      clear o3 b3 R2 G2 O2
      go_wp2
      go_ret3
      exact ⟨_, xs', root', ok, _, rfl, O3.out, HX.out.le HG.out.1 HG.out.2, by omega, R3.out, G3.out⟩
    · have hxd : (x == 0) = false := by simp [hx0]
      clear hx0 x0
      go_wp2_with fail
      refine (spec_l20Content_c g _ l _ R2.out (by omega)).mono ?_
      rintro e w3 ⟨ct, rfl, hct, r3, g3⟩
      have R3 := hid r3
      have G3 := hid (G2.out.trans g3)
      have O3 := hid (O2.out.far g3 (fun b hb => by simp at hb; omega))
      have s3 := g3.size
      have HCT := hid (show ct.size ≤ 12 ∧ contOk (bs ct) = true by unfold contS at hct; rw [Bool.and_eq_true, decide_eq_true_eq] at hct; exact hct)
      clear r3 g3 R2 G2 O2 hct
      obtain ⟨R, hR⟩ : ∃ R, writeAt xs root (bs s) (bs ct) = R := ⟨_, rfl⟩
      have HG := hid (show Good R.1 ∧ Le xs R.1 by rw [← hR]; exact writeAt_good HX.out.1 HWS.out HW0.out HCT.out.2)
      have HR := hid hR
      obtain ⟨xs', root', ok⟩ := R
      clear hR
      go_wp2_with fail
      refine (spec_WriteAt_c _ xs root s ct _ (xs', root', ok) HR.out (Rd.of_own O3.out) HX.out.1.small.1 HX.out.1.small.2 (by omega) (by have := HCT.out.1; omega)).mono ?_
      rintro e w4 ⟨v', rfl, o4, b4⟩
      have O4 := hid (o4.less (by omega : B ≤ w3.heap.size))
      have R4 := hid (R3.out.on b4)
      have G4 := hid (G3.out.trans (gb_of_below b4 (some g)))
      clear o4 b4 R3 G3 O3
      go_wp2
      go_ret3
      exact ⟨_, xs', root', ok, _, rfl, O4.out, HX.out.le HG.out.1 HG.out.2, by omega, R4.out, G4.out⟩

end Go.Proofs.YtachfmlfmpaddaaGreatDoor
