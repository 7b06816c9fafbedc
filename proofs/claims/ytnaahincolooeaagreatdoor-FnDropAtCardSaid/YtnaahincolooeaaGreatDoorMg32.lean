/- Walks and plain facts, joined: ProofI, KeepF, FilesI, DrawAs, NamesS. -/
import Derived.Test.YtnaahincolooeaaGreatDoorMg3
import Derived.Test.YtnaahincolooeaaGreatDoorMg6
import Derived.Test.YtnaahincolooeaaGreatDoorMg8
import Derived.Test.YtnaahincolooeaaGreatDoorMg17
import Derived.Test.YtnaahincolooeaaGreatDoorMg22
import Derived.Test.YtnaahincolooeaaGreatDoorMg31
set_option linter.unusedVariables false
set_option linter.unusedSimpArgs false

/- Walks: right proofs, the program's way. -/
namespace Go.Proofs.YtnaahincolooeaaGreatDoor
open Go.RowKit

noncomputable def proofRight (root : Int) (path : List UInt8) (proof : List ByteArray) : Bool := match pathParts path with
  | some ws => decide (proof.length = ws.length + 1) && onWay root (ws.map strL) proof
  | none => false
theorem right_no {root : Int} {path : List UInt8} {proof : List ByteArray} (h : pathParts path = none) : proofRight root path proof = false := by unfold proofRight; rw [h]
theorem right_on {root : Int} {path : List UInt8} {proof : List ByteArray} {ws : List (List UInt8)} (h : pathParts path = some ws) : proofRight root path proof = (decide (proof.length = ws.length + 1) && onWay root (ws.map strL) proof) := by unfold proofRight; rw [h]

set_option maxHeartbeats 2000000 in
set_option maxRecDepth 100000 in
theorem impl_ProofRight_c (root : Int) (path : ByteArray) (tv : Value) (proof : List ByteArray) (w : World) (R : Bool) (hR : proofRight root (bs path) proof = R) (ht : Strs w w.heap.size tv proof) (hs : ∀ t ∈ proof, t.size ≤ 1048576) (hp0 : path.size ≤ 1000) (hg : Glob w) (hm : Mx w) :
    Calls Tryz.prog 38 #[.int .i64 root, .string path, tv] w fun e w' => e = .returned (.bool R) ∧ Below w.heap.size w w' := by
  have HT : Hid (∀ wx, Below w.heap.size w wx → Strs wx wx.heap.size tv proof) := hid fun wx hx' => ht.on hx'
  obtain ⟨n, hn⟩ : ∃ n, proof.length = n := ⟨_, rfl⟩
  obtain ⟨ta, tc, rfl, _, _, _⟩ := ht.strs hn
  have HN := hid hn
  have HR := hid hR
  have HS := hid hs
  have HG := hid hg
  obtain ⟨P, hP⟩ : ∃ P, pathParts (bs path) = P := ⟨_, rfl⟩
  have HP := hid hP
  clear ht hn hR hs hg hP
  cases P with
  | none =>
    obtain rfl : R = false := by rw [← HR.out]; exact right_no HP.out
    go_enter Tryz.func38, Tryz.ntmps38
    go_wp2_with fail
    refine (impl_PathParts_c path _ hp0 hm).mono ?_
    rw [HP.out]
    rintro e w1 ⟨pv, rfl, o1, b1⟩
    clear o1
    go_wp2
    go_ret
    exact ⟨rfl, b1⟩
  | some ws =>
    have HPS := hid (parts_small HP.out)
    obtain ⟨m, hml⟩ : ∃ m, (ws.map strL).length = m := ⟨_, rfl⟩
    have HM := hid hml
    have hm3 : m ≤ 3 := by rw [← hml]; exact HPS.out.2
    have HO := hid ((right_on (root := root) (proof := proof) HP.out).symm.trans HR.out)
    have hwm : IntKind.i64.wrap ((m : Int) + 1) = (m : Int) + 1 := IntWalk.i64_in _ (by omega)
    have hwl : ws.length = m := by rw [← hml, List.length_map]
    have HWL := hid hwl
    clear hml hwl
    by_cases hnm : n = m + 1
    · have HW := hid (show onWay root (ws.map strL) proof = R by
        rw [← HO.out, HN.out, HWL.out, hnm]; simp)
      have hd1 : ((n : Int) == (m : Int) + 1) = true := by simp; omega
      have HL := hid (show proof.length ≤ (ws.map strL).length + 1 by rw [HN.out, HM.out]; omega)
      subst hnm
      go_enter Tryz.func38, Tryz.ntmps38
      go_wp2_with fail
      refine (impl_PathParts_c path _ hp0 hm).mono ?_
      rw [HP.out]
      rintro e w1 ⟨pv, rfl, o1, b1⟩
      have r1 : Strs w1 w1.heap.size pv (ws.map strL) := Rd.of_own o1
      have R1 := hid r1
      obtain ⟨pa, pc, rfl, _, _, _⟩ := r1.strs HM.out
      clear o1 r1
      go_wp2_with fail
      refine (impl_onTheWay_c root _ _ (ws.map strL) proof _ R HW.out R1.out (HT.out _ b1) HL.out HS.out (HG.out.on b1)).mono ?_
      rintro e w2 ⟨rfl, b2⟩
      have d2 := bl_then b1 b2
      go_wp2
      go_ret
      exact ⟨rfl, d2⟩
    · obtain rfl : R = false := by rw [← HO.out, HN.out, HWL.out]; simp [hnm]
      have hd1 : ((n : Int) == (m : Int) + 1) = false := by simp; omega
      go_enter Tryz.func38, Tryz.ntmps38
      go_wp2_with fail
      refine (impl_PathParts_c path _ hp0 hm).mono ?_
      rw [HP.out]
      rintro e w1 ⟨pv, rfl, o1, b1⟩
      have r1 : Strs w1 w1.heap.size pv (ws.map strL) := Rd.of_own o1
      obtain ⟨pa, pc, rfl, _, _, _⟩ := r1.strs HM.out
      clear o1 r1
      go_wp2
      go_ret
      exact ⟨rfl, b1⟩

/-- What a proof proves. -/
noncomputable def proofContent (root : Int) (path : List UInt8) (proof : List ByteArray) : List UInt8 × Bool :=
  if proofRight root path proof = true then (fileC (bs (proof.getLastD ByteArray.empty)), isFile (bs (proof.getLastD ByteArray.empty))) else ([], false)

set_option maxHeartbeats 2000000 in
set_option maxRecDepth 100000 in
theorem impl_ProofContent_c (root : Int) (path : ByteArray) (tv : Value) (proof : List ByteArray) (w : World) (ht : Strs w w.heap.size tv proof) (hs : ∀ t ∈ proof, t.size ≤ 1000000) (hp0 : path.size ≤ 1000) (hg : Glob w) (hm : Mx w) :
    Calls Tryz.prog 42 #[.int .i64 root, .string path, tv] w fun e w' => e = .returned (.tuple #[.string (strL (proofContent root (bs path) proof).1), .bool (proofContent root (bs path) proof).2]) ∧ Below w.heap.size w w' := by
  have HT := hid ht
  have HS := hid hs
  obtain ⟨R, hR⟩ : ∃ R, proofRight root (bs path) proof = R := ⟨_, rfl⟩
  have HR := hid hR
  have HC := hid (show proofContent root (bs path) proof = if R = true then (fileC (bs (proof.getLastD ByteArray.empty)), isFile (bs (proof.getLastD ByteArray.empty))) else ([], false) by unfold proofContent; rw [hR])
  obtain ⟨n, hn⟩ : ∃ n, proof.length = n := ⟨_, rfl⟩
  obtain ⟨ta, tc, rfl, _, _, h3⟩ := ht.strs hn
  have H3 := hid h3
  have HS2 := hid (fun (t : ByteArray) (h : t ∈ proof) => show t.size ≤ 1048576 by have := hs t h; omega)
  cases R
  · clear ht hs hR hn h3
    go_enter Tryz.func42, Tryz.ntmps42
    go_wp2_with fail
    refine (impl_ProofRight_c root path _ proof _ _ HR.out HT.out HS2.out hp0 hg hm).mono ?_
    rintro e w1 ⟨rfl, b1⟩
    go_wp2
    go_ret2
    exact ⟨by rw [HC.out]; rfl, b1⟩
  · have hn1 : 1 ≤ n := by
      rcases Nat.eq_zero_or_pos n with h0 | h0
      · exfalso
        unfold proofRight at hR
        split at hR
        · rw [hn, h0] at hR; simp at hR
        · cases hR
      · exact h0
    obtain ⟨b, o, t, rfl, hbl, hx, k0⟩ := h3 (n - 1) (by omega)
    have HL := hid (show proof.getLastD ByteArray.empty = t by
      have h1 := hx.out
      rw [List.getLastD_eq_getLast?, List.getLast?_eq_getElem?, hn, h1]; rfl)
    have hts := HS.out t (List.mem_of_getElem? hx.out)
    have hw1 : IntKind.i64.wrap ((n : Int) - 1) = ((n - 1 : Nat) : Int) := by rw [IntWalk.i64_in _ (by have := (show n ≤ tc from by omega); omega)]; omega
    have hlt : ((n - 1 : Nat) : Int) < n := by omega
    have HK := hid k0
    obtain ⟨q, hq⟩ : ∃ q, n - 1 = q := ⟨_, rfl⟩
    rw [hq] at hw1 hlt HK
    clear ht hs hR hn h3 k0 hx H3 hq hn1
    go_enter Tryz.func42, Tryz.ntmps42
    go_wp2_with fail
    refine (impl_ProofRight_c root path _ proof _ _ HR.out HT.out HS2.out hp0 hg hm).mono ?_
    rintro e w1 ⟨rfl, b1⟩
    have k1 := (b1.cell (p := ⟨b, o + q, none⟩) hbl).trans HK.out
    go_wp2_with fail
    refine (impl_ReadFile_c t _ hts).mono ?_
    rintro e w2 ⟨rfl, rfl⟩
    go_wp2
    go_ret2
    exact ⟨by rw [HC.out, HL.out]; rfl, b1⟩

end Go.Proofs.YtnaahincolooeaaGreatDoor

/- A store that holds another one has all its files, in plain Lean. -/
namespace Go.Proofs.YtnaahincolooeaaGreatDoor
open Go.RowKit

theorem textAt_le {s x : List Pc} (h : Le s x) {pr : Int} (hp : hasP s pr = true) : textAt x pr = textAt s pr := by
  unfold hasP at hp
  cases hg : getP s pr with
  | none => rw [hg] at hp; simp at hp
  | some t =>
    unfold textAt
    rw [hg, h _ _ hg]
theorem hasP_le {s x : List Pc} (h : Le s x) {pr : Int} (hp : hasP s pr = true) : hasP x pr = true := by
  unfold hasP at hp ⊢
  cases hg : getP s pr with
  | none => rw [hg] at hp; simp at hp
  | some t => rw [h _ _ hg]; rfl
theorem walk_le {s x : List Pc} (h : Le s x) : ∀ (ws : List ByteArray) (pr c : Int), walkAt s pr ws = (c, true) → walkAt x pr ws = (c, true)
  | [], pr, c, hw => by
    unfold walkAt at hw ⊢
    split at hw
    · rename_i hp
      rw [if_pos (hasP_le h hp)]; exact hw
    · cases hw
  | nm :: r, pr, c, hw => by
    cases hq : firstOf (entsOf (textAt s pr)) nm with
    | none => rw [walk_no hq] at hw; cases hw
    | some q =>
      rw [walk_some hq] at hw
      have hp : hasP s pr = true := by
        cases hp : hasP s pr
        · exfalso
          rw [textAt_none hp] at hq
          unfold entsOf at hq
          rw [readFolder_emp] at hq
          cases hq
        · rfl
      rw [walk_some (by rw [textAt_le h hp]; exact hq)]
      exact walk_le h r q c hw
theorem walk_has {s : List Pc} : ∀ (ws : List ByteArray) (pr c : Int), walkAt s pr ws = (c, true) → hasP s c = true
  | [], pr, c, hw => by
    unfold walkAt at hw
    split at hw
    · rename_i hp
      simp only [Prod.mk.injEq, and_true] at hw
      rw [← hw]; exact hp
    · cases hw
  | nm :: r, pr, c, hw => by
    cases hq : firstOf (entsOf (textAt s pr)) nm with
    | none => rw [walk_no hq] at hw; cases hw
    | some q => rw [walk_some hq] at hw; exact walk_has r q c hw
/-- keepsFiles. -/
theorem read_le {s x : List Pc} (h : Le s x) (hs : storeOk s = true) (hx : storeOk x = true) {root : Int} {path : List UInt8} (hr : (readAt s root path).2 = true) : readAt x root path = readAt s root path := by
  cases hp : pathParts path with
  | none =>
    have := walk_off (xs := s) (root := root) (path := path) (.inr hp)
    unfold readAt at hr
    rw [this] at hr
    simp at hr
  | some ws =>
    have hw := walk_on (root := root) hs hp
    have hw' := walk_on (root := root) hx hp
    unfold readAt at hr ⊢
    rw [hw] at hr ⊢
    rw [hw']
    obtain ⟨⟨c, ok⟩, hR⟩ : ∃ R, walkAt s root (ws.map strL) = R := ⟨_, rfl⟩
    rw [hR] at hr ⊢
    cases ok
    · simp at hr
    · rw [walk_le h _ _ _ hR]
      simp only [if_true]
      rw [textAt_le h (walk_has _ _ _ hR)]

end Go.Proofs.YtnaahincolooeaaGreatDoor

/- Walks: the lists of files, the program's way. -/
namespace Go.Proofs.YtnaahincolooeaaGreatDoor
open Go.RowKit

theorem flat_len_le {α β : Type} (f : α → List β) (m : Nat) : ∀ (l : List α), (∀ e ∈ l, (f e).length ≤ m) → (l.flatMap f).length ≤ l.length * m
  | [], _ => by simp
  | x :: r, h => by
    rw [List.flatMap_cons, List.length_append, List.length_cons, Nat.succ_mul]
    have h1 := h x (by simp)
    have h2 := flat_len_le f m r (fun e he => h e (by simp [he]))
    omega
/-- What one entry of a folder gives. -/
noncomputable def fileStep (xs : List Pc) (k : Nat) (parts : List ByteArray) (e : Ent) : List ByteArray := if isFile (textAt xs e.print) = true then [strL (joinP ((parts ++ [e.name]).map bs))] else belowF xs k e.print (parts ++ [e.name])
theorem below_step (xs : List Pc) (k : Nat) (pr : Int) (parts : List ByteArray) : belowF xs (k + 1) pr parts = (entsOf (textAt xs pr)).flatMap (fileStep xs k parts) := by
  conv => lhs; unfold belowF
  rfl
theorem below_len (xs : List Pc) : ∀ (k : Nat) (pr : Int) (parts : List ByteArray), (belowF xs k pr parts).length ≤ 3 ^ k
  | 0, pr, parts => by simp [belowF]
  | k + 1, pr, parts => by
    rw [below_step]
    have h1 := flat_len_le (fileStep xs k parts) (3 ^ k) (entsOf (textAt xs pr)) (fun e _ => by
      unfold fileStep
      split
      · simp only [List.length_singleton]; exact Nat.one_le_pow _ _ (by omega)
      · exact below_len xs k _ _)
    have h2 := entsOf_len (textAt xs pr)
    have h3 : (entsOf (textAt xs pr)).length * 3 ^ k ≤ 3 * 3 ^ k := Nat.mul_le_mul_right _ h2
    rw [Nat.pow_succ]; omega
theorem step_len (xs : List Pc) {k : Nat} (hk : k ≤ 2) (parts : List ByteArray) (e : Ent) : (fileStep xs k parts e).length ≤ 9 := by
  unfold fileStep
  split
  · simp
  · have h1 := below_len xs k e.print (parts ++ [e.name])
    have h2 : 3 ^ k ≤ 3 ^ 2 := Nat.pow_le_pow_right (by omega) hk
    omega
theorem flat_succ {α β : Type} (f : α → List β) {l : List α} {k : Nat} {x : α} (h : l[k]? = some x) : (l.take (k + 1)).flatMap f = (l.take k).flatMap f ++ f x := by rw [take_snoc' h, List.flatMap_append]; simp
theorem allFiles_len (xs : List Pc) (root : Int) : (allFiles xs root).length ≤ 27 := by
  unfold allFiles
  split
  · exact below_len xs 3 root []
  · simp
theorem allFiles_off {xs : List Pc} {root : Int} (h : storeOk xs = false) : allFiles xs root = [] := by unfold allFiles; rw [h]; rfl
theorem allFiles_on {xs : List Pc} {root : Int} (h : storeOk xs = true) : allFiles xs root = belowF xs 3 root [] := by unfold allFiles; rw [h]; rfl

section
variable {ops : Array Oper} {rest : List Oper} {o : Oper} {a : Act} {Q : Exit → Act → World → Prop} {w0 wr : World}
theorem cat_str (hgd : o.guard = none) (s x : Operand) (ho : o.op = .call { callee := .builtin .append, args := #[s, x], argTypes := #[42, 42] }) (B B0 : Nat) (v sv : Value) (acc ys : List ByteArray)
    (hown : OwnS wr B v acc) (Bs : Nat) (hr : Strs wr Bs sv ys) (hb : Below B0 w0 wr) (hB : B ≤ wr.heap.size) (hB0 : B0 ≤ B) (hs : a.eval s = v) (hx : a.eval x = sv) (hn : acc.length + ys.length < 1099511627776)
    (h : ∀ v' w', OwnS w' B v' (acc ++ ys) → Below B0 w0 w' → B ≤ w'.heap.size → wr.grownBy w' v.ownBlock ∧ (∀ g, v'.ownBlock = some g → v.ownBlock = some g ∨ wr.heap.size ≤ g) → wpList Tryz.prog ops Q rest (a.put o.dst v') w') :
    wpList Tryz.prog ops Q (o :: rest) a wr := by
  obtain ⟨i0, hi, hz0, hz1, hz2⟩ := info_parts info_string
  exact wpList_cat (enc := encS) hgd s x 42 ho B B0 9 i0 _ 1 16 Tryz.underlying42 hi hz0 hz1 hz2 rfl (by decide) v sv acc ys hown Bs hr hb hB hB0 hs hx (by simp [Value.oneCell']) hn (by decide) h
end

set_option maxHeartbeats 2000000 in
set_option maxRecDepth 100000 in
theorem cloneS_c (v : Value) (xs : List ByteArray) (w : World) (h : Strs w w.heap.size v xs) (hl : xs.length ≤ 1000000) :
    Calls Tryz.prog 124 #[v] w fun e w' => ∃ v', e = .returned v' ∧ OwnS w' w.heap.size v' xs ∧ Below w.heap.size w w' := by
  obtain ⟨n, hn⟩ : ∃ n, xs.length = n := ⟨_, rfl⟩
  obtain ⟨a, c, rfl, _, _, h3⟩ := h.strs hn
  have h0 := h
  obtain ⟨i0, hi0, hz0, hz1, hz2⟩ := info_parts info_string
  have qn : ∀ (w : World) (a : Option Addr) (n c n' c' : Nat), (binOp .eql 42 (.slice a n c) (.slice none n' c')).run Tryz.prog w = .ok (.bool a.isNone) w := fun w a n c n' c' => Lib.run_eql_slice_nil w _ _ a n c n' c' Tryz.underlying42
  cases a with
  | none =>
    have hn0 : n = 0 := by
      rcases Nat.eq_zero_or_pos n with h | h
      · exact h
      · obtain ⟨b, o, t, hb, _⟩ := h3 0 h; cases hb
    have hx : xs = [] := List.eq_nil_of_length_eq_zero (by omega)
    have HX := hid hx
    clear hx hn h3 h0 hl
    go_enter Tryz.func124, Tryz.ntmps124
    go_wp2_with (simp only [qn])
    go_ret
    exact ⟨_, rfl, by rw [HX.out]; exact Own.nil_, Below.refl _ _⟩
  | some ad =>
    have HN := hid hn
    have HL := hid hl
    have hal : Below w.heap.size w (w.alloc (.cells #[] 9)) := (Below.refl _ _).alloc (Nat.le_refl _) _
    clear hn h3 hl
    go_enter Tryz.func124, Tryz.ntmps124
    go_wp2_with (first | simp only [qn] | (at_builtin; refine wpList_cat (enc := encS) (w0 := w) rfl _ _ 42 rfl w.heap.size w.heap.size 9 i0 _ 1 16 Tryz.underlying42 hi0 hz0 hz1 hz2 rfl (by decide) _ _ [] xs (Own.made w (Nat.le_refl _)) _ (h0.below hal (Nat.le_refl _)) hal (by simp) (Nat.le_refl _) rfl rfl (by simp [Value.oneCell']) (by have := HL.out; simp; omega) (by decide) ?_; intro v' w' hown' hb' hB' hg'))
    go_ret
    exact ⟨_, rfl, hown', hb'⟩

end Go.Proofs.YtnaahincolooeaaGreatDoor

/- Walks: drawn stores with prints that are asked for, with roots. -/
namespace Go.Proofs.YtnaahincolooeaaGreatDoor
open Go.RowKit

theorem lit_rdN {w : World} {b : Nat} {x : Int} (h : w.heap[b]? = some (.cells #[.int .i64 x] 3 (0, 0))) : Ints w w.heap.size (.slice (some ⟨b, 0, none⟩) 1 1) [x] := by
  refine ⟨_, _, rfl, by simp, by simp [maxLen], by simp, fun _ => ⟨b, 0, rfl, (Array.getElem?_eq_some_iff.1 h).1, fun j u hu => ?_⟩⟩
  rw [Nat.zero_add, cell_of_row w b j _ _ (0, 0) h]
  simpa using hu

theorem Reader.drewR {w : World} {g p : Nat} {l : List Int} (h : Reader w g l p) : Reader w.drew g l p := h.on (bl_drewN (Below.refl _ _) 1)

/-- The reader; what was written is its block, the row that is appended to, and new ones; that row stands as long as nothing was appended. -/
def QJ (W0 : World) (g : Nat) (l : List Int) (pq : Nat) (ov : Value) (B : Nat) (acc : List Int) (app : Nat) (L : Nat → Bool) (n : Nat) (w : World) : Prop :=
  ∃ p', p' ≤ pq + 4 * n ∧ Reader w g l p' ∧ Frm (fun k => k = g ∨ ov.ownBlock = some k) W0 w ∧ (L app = false → OwnI w B ov acc)

section
variable {W0 w w' : World} {g pq B app i n : Nat} {l acc : List Int} {ov : Value} {L : Nat → Bool}

theorem QJ.frm (h : QJ W0 g l pq ov B acc app L n w) : Frm (fun k => k = g ∨ ov.ownBlock = some k) W0 w := by obtain ⟨_, _, _, h, _⟩ := h; exact h

theorem QJ.step (h : QJ W0 g l pq ov B acc app L n w) : QJ W0 g l pq ov B acc app (fun k => if k = i then true else L k) (n + 1) w := by
  obtain ⟨p', h1, h2, h3, h4⟩ := h
  refine ⟨p', by omega, h2, h3, fun hL => h4 ?_⟩
  simp only at hL
  split at hL
  · cases hL
  · exact hL

theorem QJ.ne_g (h : QJ W0 g l pq ov B acc app L n w) : w.heap.size ≠ g := by
  obtain ⟨p', h1, h2, h3, h4⟩ := h
  have := h2.lt
  omega

theorem QJ.ne_o (h : QJ W0 g l pq ov B acc app L n w) (ho : ∀ b, ov.ownBlock = some b → b < W0.heap.size) : ov.ownBlock ≠ some w.heap.size := by
  intro e
  have := ho _ e
  have := h.frm.size
  omega

theorem QJ.alloc (hne : i ≠ app) (h : QJ W0 g l pq ov B acc app L n w) (o : Obj) : QJ W0 g l pq ov B acc app (fun k => if k = i then true else L k) (n + 1) (w.alloc o) := by
  obtain ⟨p', h1, h2, h3, h4⟩ := h
  refine ⟨p', by omega, h2.alloc o, h3.trans (S' := fun _ => False) (Frm.of_below ((Below.refl _ _).alloc (Nat.le_refl _) _)) (fun _ _ e => e.elim), fun hL => ?_⟩
  simp only [if_neg (Ne.symm hne)] at hL
  exact (h4 hL).alloc o

theorem QJ.read {p9 : Nat} (hB : g < B) (hne : i ≠ app) (h : QJ W0 g l pq ov B acc app L n w) (r : Reader w' g l p9) (hp : p9 ≤ pq + 4 * (n + 1)) (gr : w.grownBy w' (some g)) : QJ W0 g l pq ov B acc app (fun k => if k = i then true else L k) (n + 1) w' := by
  obtain ⟨p', h1, h2, h3, h4⟩ := h
  refine ⟨p9, hp, r, h3.trans (S' := fun k => k = g) (Frm.of_grown gr (fun b hb => (Option.some.inj hb).symm)) (fun x hx e => .inl e), fun hL => ?_⟩
  simp only [if_neg (Ne.symm hne)] at hL
  exact (h4 hL).far gr (fun b hb => by simp at hb; omega)

theorem QJ.appd (h : QJ W0 g l pq ov B acc app L n w) (gr : w.grownBy w' ov.ownBlock) (hb : ∀ b, ov.ownBlock = some b → g < b) : QJ W0 g l pq ov B acc app (fun k => if k = app then true else L k) (n + 1) w' := by
  obtain ⟨p', h1, h2, h3, h4⟩ := h
  refine ⟨p', by omega, h2.kept gr hb, h3.trans (S' := fun k => ov.ownBlock = some k) (Frm.of_grown gr (fun b hb => hb)) (fun x hx e => .inr e), fun hL => ?_⟩
  simp at hL
end

def isPcP (gs n : Nat) : Value → World → Prop := fun v _ => ∃ j : Nat, j < n ∧ v = .pointer (some ⟨gs, j * 2, none⟩)
def isN : Value → World → Prop := fun v _ => ∃ x : Int, v = .int .i64 x
def isIRow (g : Nat) (ov : Value) (K : Nat) : Value → World → Prop := fun v w => ∃ (b : Nat) (cs : Array Value), v = .slice (some ⟨b, 0, none⟩) K K ∧ b ≠ g ∧ ov.ownBlock ≠ some b ∧ w.heap[b]? = some (.cells cs 3 (0, 0)) ∧ cs.size = K ∧ (cs.toList.all fun v => match v with | .int .i64 _ => true | _ => false) = true
def isICell (g : Nat) (ov : Value) : Value → World → Prop := fun v w => ∃ (b i : Nat) (y : Int), v = .pointer (some ⟨b, i, none⟩) ∧ b ≠ g ∧ ov.ownBlock ≠ some b ∧ w.cell? ⟨b, i, none⟩ = some (.int .i64 y)
def isLitI (g : Nat) (ov : Value) : Value → World → Prop := fun v w => ∃ (b : Nat) (y : Int), v = .slice (some ⟨b, 0, none⟩) 1 1 ∧ b ≠ g ∧ ov.ownBlock ≠ some b ∧ w.heap[b]? = some (.cells #[.int .i64 y] 3 (0, 0))
def isMore (B : Nat) (acc : List Int) : Value → World → Prop := fun v w => ∃ y : Int, OwnI w B v (acc ++ [y])
theorem irow_cell {w : World} {b K j : Nat} {cs : Array Value} (h : w.heap[b]? = some (.cells cs 3 (0, 0))) (hK : cs.size = K) (ha : (cs.toList.all fun v => match v with | .int .i64 _ => true | _ => false) = true) (hj : j < K) : ∃ y : Int, w.cell? ⟨b, j, none⟩ = some (.int .i64 y) := by
  have hj' : j < cs.size := by omega
  have h1 := List.all_eq_true.1 ha cs[j] (by simp)
  cases hv : cs[j] with
  | int k x =>
    rw [hv] at h1
    cases k <;> simp at h1
    exact ⟨x, by simp [World.cell?, h, hj', hv]⟩
  | _ => rw [hv] at h1; cases h1

section
variable {w w' : World} {g j J B K : Nat} {ov v : Value} {acc : List Int}
theorem frm_block {b : Nat} {o : Obj} (hS : Frm (fun k => k = g ∨ (j = J ∧ ov.ownBlock = some k)) w w') (h1 : b ≠ g) (h2 : ov.ownBlock ≠ some b) (hb : w.heap[b]? = some o) : w'.heap[b]? = some o :=
  (hS.block b (Array.getElem?_eq_some_iff.1 hb).1 (fun h => h.elim h1 (fun h => h2 h.2))).trans hb
theorem isIRow_frm (hS : Frm (fun k => k = g ∨ (j = J ∧ ov.ownBlock = some k)) w w') (h : isIRow g ov K v w) : isIRow g ov K v w' := by
  obtain ⟨b, cs, h1, h2, h3, h4, h5⟩ := h
  exact ⟨b, cs, h1, h2, h3, frm_block hS h2 h3 h4, h5⟩
theorem isLitI_frm (hS : Frm (fun k => k = g ∨ (j = J ∧ ov.ownBlock = some k)) w w') (h : isLitI g ov v w) : isLitI g ov v w' := by
  obtain ⟨b, y, h1, h2, h3, h4⟩ := h
  exact ⟨b, y, h1, h2, h3, frm_block hS h2 h3 h4⟩
theorem isICell_frm (hS : Frm (fun k => k = g ∨ (j = J ∧ ov.ownBlock = some k)) w w') (h : isICell g ov v w) : isICell g ov v w' := by
  obtain ⟨b, i, y, h1, h2, h3, h4⟩ := h
  refine ⟨b, i, y, h1, h2, h3, ?_⟩
  have hb := World.block_lt_of_cell? w _ h4
  rw [← h4]
  exact World.cell?_of_block (hS.block b hb (fun h => h.elim h2 (fun h => h3 h.2)))
theorem isMore_frm (hgB : g < B) (hne : j ≠ J) (hS : Frm (fun k => k = g ∨ (j = J ∧ ov.ownBlock = some k)) w w') (h : isMore B acc v w) : isMore B acc v w' := by
  obtain ⟨y, ho⟩ := h
  exact ⟨y, ho.frm hS (fun b hb e => by
    have h2 := (ho.lt b hb).1
    rcases e with rfl | e
    · omega
    · exact hne e.1)⟩
end

theorem gb_frm {w1 wr w' : World} {g0 : Nat} {T : Option Nat} (h : w1.grownBy wr (some g0)) (hf : Frm (fun k => k = g0 ∨ T = some k) wr w') (hr : ∀ b, T = some b → w1.heap.size ≤ b) : w1.grownBy w' (some g0) :=
  ⟨hf.os.trans h.os, hf.tape.trans h.tape, hf.output.trans h.output, Nat.le_trans h.size hf.size, fun k hk hne => (hf.block k (Nat.lt_of_lt_of_le hk h.size) (fun e => by
    rcases e with rfl | e
    · exact hne rfl
    · have := hr k e; omega)).trans (h.block k hk hne)⟩

/-- A drawn store with numbers. -/
def AskedD (w : World) (g : Nat) (l : List Int) (m : Nat) (e : Ending) (w' : World) : Prop :=
  ∃ (v u : Value) (xs : List Pc) (ns : List Int) (p' : Nat), e = .returned (.tuple #[v, u]) ∧ OwnP w' w.heap.size v xs ∧ Drawn xs ∧ OwnI w' w.heap.size u ns ∧ ns.length ≤ m ∧ (∀ a b, v.ownBlock = some a → u.ownBlock = some b → a ≠ b) ∧ p' ≤ 1000 ∧ Reader w' g l p' ∧ w.grownBy w' (some g)



end Go.Proofs.YtnaahincolooeaaGreatDoor

/- Walks: a folder's names, the reference's way. -/
namespace Go.Proofs.YtnaahincolooeaaGreatDoor
open Go.RowKit


end Go.Proofs.YtnaahincolooeaaGreatDoor
