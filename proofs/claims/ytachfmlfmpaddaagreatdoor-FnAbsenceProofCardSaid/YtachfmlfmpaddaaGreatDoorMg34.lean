/- Walks and plain facts, joined: ProofI', DrawAs', NamesS', AbsI', DrawRo'. -/
import Derived.Test.YtachfmlfmpaddaaGreatDoorMg2
import Derived.Test.YtachfmlfmpaddaaGreatDoorMg3
import Derived.Test.YtachfmlfmpaddaaGreatDoorMg4
import Derived.Test.YtachfmlfmpaddaaGreatDoorMg5
import Derived.Test.YtachfmlfmpaddaaGreatDoorMg6
import Derived.Test.YtachfmlfmpaddaaGreatDoorMg7
import Derived.Test.YtachfmlfmpaddaaGreatDoorMg9
import Derived.Test.YtachfmlfmpaddaaGreatDoorMg16
import Derived.Test.YtachfmlfmpaddaaGreatDoorMg17
import Derived.Test.YtachfmlfmpaddaaGreatDoorMg22
import Derived.Test.YtachfmlfmpaddaaGreatDoorMg23
import Derived.Test.YtachfmlfmpaddaaGreatDoorMg26
import Derived.Test.YtachfmlfmpaddaaGreatDoorMg28
import Derived.Test.YtachfmlfmpaddaaGreatDoorMg29
import Derived.Test.YtachfmlfmpaddaaGreatDoorMg30
import Derived.Test.YtachfmlfmpaddaaGreatDoorMg31
set_option linter.unusedVariables false
set_option linter.unusedSimpArgs false

/- Walks: right proofs, the program's way. -/
namespace Go.Proofs.YtachfmlfmpaddaaGreatDoor
open Go.RowKit

noncomputable def proofRight (root : Int) (path : List UInt8) (proof : List ByteArray) : Bool := match pathParts path with
  | some ws => decide (proof.length = ws.length + 1) && onWay root (ws.map strL) proof
  | none => false
theorem right_no {root : Int} {path : List UInt8} {proof : List ByteArray} (h : pathParts path = none) : proofRight root path proof = false := by unfold proofRight; rw [h]
theorem right_on {root : Int} {path : List UInt8} {proof : List ByteArray} {ws : List (List UInt8)} (h : pathParts path = some ws) : proofRight root path proof = (decide (proof.length = ws.length + 1) && onWay root (ws.map strL) proof) := by unfold proofRight; rw [h]

set_option maxHeartbeats 2000000 in
set_option maxRecDepth 100000 in
theorem impl_ProofRight_c (root : Int) (path : ByteArray) (tv : Value) (proof : List ByteArray) (w : World) (R : Bool) (hR : proofRight root (bs path) proof = R) (ht : Strs w w.heap.size tv proof) (hs : ∀ t ∈ proof, t.size ≤ 1048576) (hp0 : path.size ≤ 1000) (hg : Glob w) (hm : Mx w) :
    Calls Tryz.prog 23 #[.int .i64 root, .string path, tv] w fun e w' => e = .returned (.bool R) ∧ Below w.heap.size w w' := by
  have HT : Hid (∀ wx, Below w.heap.size w wx → Strs wx wx.heap.size tv proof) := hid fun wx hx' => ht.on hx'
  obtain ⟨n, hn⟩ : ∃ n, proof.length = n := ⟨_, rfl⟩
  obtain ⟨ta, tc, rfl, _, _, _⟩ := ht.strs hn
  have HN := hid hn
  have HR := hid hR
  have HS := hid hs
  have HG := hid hg
  obtain ⟨P, hP⟩ : ∃ P, pathParts (bs path) = P := ⟨_, rfl⟩
  have HP := hid hP
  clear ht hn hR hs hg hP
  cases P with
  | none =>
    obtain rfl : R = false := by rw [← HR.out]; exact right_no HP.out
    go_enter Tryz.func23, Tryz.ntmps23
    go_wp2_with fail
    refine (impl_PathParts_c path _ hp0 hm).mono ?_
    rw [HP.out]
    rintro e w1 ⟨pv, rfl, o1, b1⟩
    clear o1
    go_wp2
    go_ret
    exact ⟨rfl, b1⟩
  | some ws =>
    have HPS := hid (parts_small HP.out)
    obtain ⟨m, hml⟩ : ∃ m, (ws.map strL).length = m := ⟨_, rfl⟩
    have HM := hid hml
    have hm3 : m ≤ 3 := by rw [← hml]; exact HPS.out.2
    have HO := hid ((right_on (root := root) (proof := proof) HP.out).symm.trans HR.out)
    have hwm : IntKind.i64.wrap ((m : Int) + 1) = (m : Int) + 1 := IntWalk.i64_in _ (by omega)
    have hwl : ws.length = m := by rw [← hml, List.length_map]
    have HWL := hid hwl
    clear hml hwl
    by_cases hnm : n = m + 1
    · have HW := hid (show onWay root (ws.map strL) proof = R by
        rw [← HO.out, HN.out, HWL.out, hnm]; simp)
      have hd1 : ((n : Int) == (m : Int) + 1) = true := by simp; omega
      have HL := hid (show proof.length ≤ (ws.map strL).length + 1 by rw [HN.out, HM.out]; omega)
      subst hnm
      go_enter Tryz.func23, Tryz.ntmps23
      go_wp2_with fail
      refine (impl_PathParts_c path _ hp0 hm).mono ?_
      rw [HP.out]
      rintro e w1 ⟨pv, rfl, o1, b1⟩
      have r1 : Strs w1 w1.heap.size pv (ws.map strL) := Rd.of_own o1
      have R1 := hid r1
      obtain ⟨pa, pc, rfl, _, _, _⟩ := r1.strs HM.out
      clear o1 r1
      go_wp2_with fail
      refine (impl_onTheWay_c root _ _ (ws.map strL) proof _ R HW.out R1.out (HT.out _ b1) HL.out HS.out (HG.out.on b1)).mono ?_
      rintro e w2 ⟨rfl, b2⟩
      have d2 := bl_then b1 b2
      go_wp2
      go_ret
      exact ⟨rfl, d2⟩
    · obtain rfl : R = false := by rw [← HO.out, HN.out, HWL.out]; simp [hnm]
      have hd1 : ((n : Int) == (m : Int) + 1) = false := by simp; omega
      go_enter Tryz.func23, Tryz.ntmps23
      go_wp2_with fail
      refine (impl_PathParts_c path _ hp0 hm).mono ?_
      rw [HP.out]
      rintro e w1 ⟨pv, rfl, o1, b1⟩
      have r1 : Strs w1 w1.heap.size pv (ws.map strL) := Rd.of_own o1
      obtain ⟨pa, pc, rfl, _, _, _⟩ := r1.strs HM.out
      clear o1 r1
      go_wp2
      go_ret
      exact ⟨rfl, b1⟩

/-- What a proof proves. -/
noncomputable def proofContent (root : Int) (path : List UInt8) (proof : List ByteArray) : List UInt8 × Bool :=
  if proofRight root path proof = true then (fileC (bs (proof.getLastD ByteArray.empty)), isFile (bs (proof.getLastD ByteArray.empty))) else ([], false)

set_option maxHeartbeats 2000000 in
set_option maxRecDepth 100000 in
theorem impl_ProofContent_c (root : Int) (path : ByteArray) (tv : Value) (proof : List ByteArray) (w : World) (ht : Strs w w.heap.size tv proof) (hs : ∀ t ∈ proof, t.size ≤ 1000000) (hp0 : path.size ≤ 1000) (hg : Glob w) (hm : Mx w) :
    Calls Tryz.prog 18 #[.int .i64 root, .string path, tv] w fun e w' => e = .returned (.tuple #[.string (strL (proofContent root (bs path) proof).1), .bool (proofContent root (bs path) proof).2]) ∧ Below w.heap.size w w' := by
  have HT := hid ht
  have HS := hid hs
  obtain ⟨R, hR⟩ : ∃ R, proofRight root (bs path) proof = R := ⟨_, rfl⟩
  have HR := hid hR
  have HC := hid (show proofContent root (bs path) proof = if R = true then (fileC (bs (proof.getLastD ByteArray.empty)), isFile (bs (proof.getLastD ByteArray.empty))) else ([], false) by unfold proofContent; rw [hR])
  obtain ⟨n, hn⟩ : ∃ n, proof.length = n := ⟨_, rfl⟩
  obtain ⟨ta, tc, rfl, _, _, h3⟩ := ht.strs hn
  have H3 := hid h3
  have HS2 := hid (fun (t : ByteArray) (h : t ∈ proof) => show t.size ≤ 1048576 by have := hs t h; omega)
  cases R
  · clear ht hs hR hn h3
    go_enter Tryz.func18, Tryz.ntmps18
    go_wp2_with fail
    refine (impl_ProofRight_c root path _ proof _ _ HR.out HT.out HS2.out hp0 hg hm).mono ?_
    rintro e w1 ⟨rfl, b1⟩
    go_wp2
    go_ret2
    exact ⟨by rw [HC.out]; rfl, b1⟩
  · have hn1 : 1 ≤ n := by
      rcases Nat.eq_zero_or_pos n with h0 | h0
      · exfalso
        unfold proofRight at hR
        split at hR
        · rw [hn, h0] at hR; simp at hR
        · cases hR
      · exact h0
    obtain ⟨b, o, t, rfl, hbl, hx, k0⟩ := h3 (n - 1) (by omega)
    have HL := hid (show proof.getLastD ByteArray.empty = t by
      have h1 := hx.out
      rw [List.getLastD_eq_getLast?, List.getLast?_eq_getElem?, hn, h1]; rfl)
    have hts := HS.out t (List.mem_of_getElem? hx.out)
    have hw1 : IntKind.i64.wrap ((n : Int) - 1) = ((n - 1 : Nat) : Int) := by rw [IntWalk.i64_in _ (by have := (show n ≤ tc from by omega); omega)]; omega
    have hlt : ((n - 1 : Nat) : Int) < n := by omega
    have HK := hid k0
    obtain ⟨q, hq⟩ : ∃ q, n - 1 = q := ⟨_, rfl⟩
    rw [hq] at hw1 hlt HK
    clear ht hs hR hn h3 k0 hx H3 hq hn1
    go_enter Tryz.func18, Tryz.ntmps18
    go_wp2_with fail
    refine (impl_ProofRight_c root path _ proof _ _ HR.out HT.out HS2.out hp0 hg hm).mono ?_
    rintro e w1 ⟨rfl, b1⟩
    have k1 := (b1.cell (p := ⟨b, o + q, none⟩) hbl).trans HK.out
    go_wp2_with fail
    refine (impl_ReadFile_c t _ hts).mono ?_
    rintro e w2 ⟨rfl, rfl⟩
    go_wp2
    go_ret2
    exact ⟨by rw [HC.out, HL.out]; rfl, b1⟩

end Go.Proofs.YtachfmlfmpaddaaGreatDoor

/- Walks: drawn stores with prints that are asked for, with roots. -/
namespace Go.Proofs.YtachfmlfmpaddaaGreatDoor
open Go.RowKit

theorem lit_rdN {w : World} {b : Nat} {x : Int} (h : w.heap[b]? = some (.cells #[.int .i64 x] 3 (0, 0))) : Ints w w.heap.size (.slice (some ⟨b, 0, none⟩) 1 1) [x] := by
  refine ⟨_, _, rfl, by simp, by simp [maxLen], by simp, fun _ => ⟨b, 0, rfl, (Array.getElem?_eq_some_iff.1 h).1, fun j u hu => ?_⟩⟩
  rw [Nat.zero_add, cell_of_row w b j _ _ (0, 0) h]
  simpa using hu

section
variable {W0 w w' : World} {g pq B app i n : Nat} {l acc : List Int} {ov : Value} {L : Nat → Bool}

theorem QJ.ne_g (h : QJ W0 g l pq ov B acc app L n w) : w.heap.size ≠ g := by
  obtain ⟨p', h1, h2, h3, h4⟩ := h
  have := h2.lt
  omega

theorem QJ.ne_o (h : QJ W0 g l pq ov B acc app L n w) (ho : ∀ b, ov.ownBlock = some b → b < W0.heap.size) : ov.ownBlock ≠ some w.heap.size := by
  intro e
  have := ho _ e
  have := h.frm.size
  omega

theorem QJ.appd (h : QJ W0 g l pq ov B acc app L n w) (gr : w.grownBy w' ov.ownBlock) (hb : ∀ b, ov.ownBlock = some b → g < b) : QJ W0 g l pq ov B acc app (fun k => if k = app then true else L k) (n + 1) w' := by
  obtain ⟨p', h1, h2, h3, h4⟩ := h
  refine ⟨p', by omega, h2.kept gr hb, h3.trans (S' := fun k => ov.ownBlock = some k) (Frm.of_grown gr (fun b hb => hb)) (fun x hx e => .inr e), fun hL => ?_⟩
  simp at hL
end

def isPcP (gs n : Nat) : Value → World → Prop := fun v _ => ∃ j : Nat, j < n ∧ v = .pointer (some ⟨gs, j * 2, none⟩)
def isN : Value → World → Prop := fun v _ => ∃ x : Int, v = .int .i64 x
def isIRow (g : Nat) (ov : Value) (K : Nat) : Value → World → Prop := fun v w => ∃ (b : Nat) (cs : Array Value), v = .slice (some ⟨b, 0, none⟩) K K ∧ b ≠ g ∧ ov.ownBlock ≠ some b ∧ w.heap[b]? = some (.cells cs 3 (0, 0)) ∧ cs.size = K ∧ (cs.toList.all fun v => match v with | .int .i64 _ => true | _ => false) = true
def isICell (g : Nat) (ov : Value) : Value → World → Prop := fun v w => ∃ (b i : Nat) (y : Int), v = .pointer (some ⟨b, i, none⟩) ∧ b ≠ g ∧ ov.ownBlock ≠ some b ∧ w.cell? ⟨b, i, none⟩ = some (.int .i64 y)
def isLitI (g : Nat) (ov : Value) : Value → World → Prop := fun v w => ∃ (b : Nat) (y : Int), v = .slice (some ⟨b, 0, none⟩) 1 1 ∧ b ≠ g ∧ ov.ownBlock ≠ some b ∧ w.heap[b]? = some (.cells #[.int .i64 y] 3 (0, 0))
def isMore (B : Nat) (acc : List Int) : Value → World → Prop := fun v w => ∃ y : Int, OwnI w B v (acc ++ [y])
theorem irow_cell {w : World} {b K j : Nat} {cs : Array Value} (h : w.heap[b]? = some (.cells cs 3 (0, 0))) (hK : cs.size = K) (ha : (cs.toList.all fun v => match v with | .int .i64 _ => true | _ => false) = true) (hj : j < K) : ∃ y : Int, w.cell? ⟨b, j, none⟩ = some (.int .i64 y) := by
  have hj' : j < cs.size := by omega
  have h1 := List.all_eq_true.1 ha cs[j] (by simp)
  cases hv : cs[j] with
  | int k x =>
    rw [hv] at h1
    cases k <;> simp at h1
    exact ⟨x, by simp [World.cell?, h, hj', hv]⟩
  | _ => rw [hv] at h1; cases h1

section
variable {w w' : World} {g j J B K : Nat} {ov v : Value} {acc : List Int}
theorem frm_block {b : Nat} {o : Obj} (hS : Frm (fun k => k = g ∨ (j = J ∧ ov.ownBlock = some k)) w w') (h1 : b ≠ g) (h2 : ov.ownBlock ≠ some b) (hb : w.heap[b]? = some o) : w'.heap[b]? = some o :=
  (hS.block b (Array.getElem?_eq_some_iff.1 hb).1 (fun h => h.elim h1 (fun h => h2 h.2))).trans hb
theorem isIRow_frm (hS : Frm (fun k => k = g ∨ (j = J ∧ ov.ownBlock = some k)) w w') (h : isIRow g ov K v w) : isIRow g ov K v w' := by
  obtain ⟨b, cs, h1, h2, h3, h4, h5⟩ := h
  exact ⟨b, cs, h1, h2, h3, frm_block hS h2 h3 h4, h5⟩
theorem isLitI_frm (hS : Frm (fun k => k = g ∨ (j = J ∧ ov.ownBlock = some k)) w w') (h : isLitI g ov v w) : isLitI g ov v w' := by
  obtain ⟨b, y, h1, h2, h3, h4⟩ := h
  exact ⟨b, y, h1, h2, h3, frm_block hS h2 h3 h4⟩
theorem isICell_frm (hS : Frm (fun k => k = g ∨ (j = J ∧ ov.ownBlock = some k)) w w') (h : isICell g ov v w) : isICell g ov v w' := by
  obtain ⟨b, i, y, h1, h2, h3, h4⟩ := h
  refine ⟨b, i, y, h1, h2, h3, ?_⟩
  have hb := World.block_lt_of_cell? w _ h4
  rw [← h4]
  exact World.cell?_of_block (hS.block b hb (fun h => h.elim h2 (fun h => h3 h.2)))
theorem isMore_frm (hgB : g < B) (hne : j ≠ J) (hS : Frm (fun k => k = g ∨ (j = J ∧ ov.ownBlock = some k)) w w') (h : isMore B acc v w) : isMore B acc v w' := by
  obtain ⟨y, ho⟩ := h
  exact ⟨y, ho.frm hS (fun b hb e => by
    have h2 := (ho.lt b hb).1
    rcases e with rfl | e
    · omega
    · exact hne e.1)⟩
end

theorem gb_frm {w1 wr w' : World} {g0 : Nat} {T : Option Nat} (h : w1.grownBy wr (some g0)) (hf : Frm (fun k => k = g0 ∨ T = some k) wr w') (hr : ∀ b, T = some b → w1.heap.size ≤ b) : w1.grownBy w' (some g0) :=
  ⟨hf.os.trans h.os, hf.tape.trans h.tape, hf.output.trans h.output, Nat.le_trans h.size hf.size, fun k hk hne => (hf.block k (Nat.lt_of_lt_of_le hk h.size) (fun e => by
    rcases e with rfl | e
    · exact hne rfl
    · have := hr k e; omega)).trans (h.block k hk hne)⟩

/-- A drawn store with numbers. -/
def AskedD (w : World) (g : Nat) (l : List Int) (m : Nat) (e : Ending) (w' : World) : Prop :=
  ∃ (v u : Value) (xs : List Pc) (ns : List Int) (p' : Nat), e = .returned (.tuple #[v, u]) ∧ OwnP w' w.heap.size v xs ∧ Drawn xs ∧ OwnI w' w.heap.size u ns ∧ ns.length ≤ m ∧ (∀ a b, v.ownBlock = some a → u.ownBlock = some b → a ≠ b) ∧ p' ≤ 1000 ∧ Reader w' g l p' ∧ w.grownBy w' (some g)



end Go.Proofs.YtachfmlfmpaddaaGreatDoor

/- Walks: a folder's names, the reference's way. -/
namespace Go.Proofs.YtachfmlfmpaddaaGreatDoor
open Go.RowKit

set_option maxHeartbeats 2000000 in
set_option maxRecDepth 100000 in
theorem spec_NamesAt_c (v : Value) (xs : List Pc) (root : Int) (path : ByteArray) (w : World) (L : List ByteArray) (f : Bool) (hL : namesAt xs root (bs path) = (L, f)) (h : Pcs w w.heap.size v xs) (hx0 : ∀ x ∈ xs, x.text.size ≤ 1048576) (hl0 : xs.length ≤ 1048576) (hp0 : path.size ≤ 900) :
    Calls Tryz.prog 62 #[v, .int .i64 root, .string path] w fun e w' => ∃ v', e = .returned (.tuple #[v', .bool f]) ∧ OwnS w' w.heap.size v' L ∧ Below w.heap.size w w' := by
  have HP : Hid (∀ wx, Below w.heap.size w wx → Pcs wx wx.heap.size v xs) := fun wx hx' => h.on hx'
  have HX := hid hx0
  have HL0 := hid hl0
  obtain ⟨⟨y, ok⟩, hR⟩ : ∃ R, walkTo xs root (bs path) = R := ⟨_, rfl⟩
  have HR := hid hR
  have hRA := hid (show (if ok = true then (((folderAt xs y).getD []).map (·.name), (folderAt xs y).isSome) else ([], false)) = (L, f) by rw [← hL]; unfold namesAt; rw [hR])
  obtain ⟨W1, hW1⟩ : ∃ W1, W1 = w.alloc (.cells #[] 9) := ⟨_, rfl⟩
  have hal : Below w.heap.size w W1 := by rw [hW1]; exact (Below.refl _ _).alloc (Nat.le_refl _) _
  have hown0 : OwnS W1 w.heap.size (.slice (some ⟨w.heap.size, 0, none⟩) 0 0) [] := by rw [hW1]; exact Own.made _ (Nat.le_refl _)
  obtain ⟨G, hG⟩ : ∃ G, getText xs y = G := ⟨_, rfl⟩
  have HG := hid hG
  have hGs : G.1.size ≤ 60 := by
    rw [← hG]
    cases hok : storeOk xs
    · rw [getText_off hok]; decide
    · rw [getText_on hok]; exact text_small hok y
  have HGs := hid hGs
  have HGF := hid (show ok = true → (readFolder (bs G.1)) = folderAt xs y by
    rintro rfl
    have hs : storeOk xs = true := by
      cases hok : storeOk xs
      · rw [walk_off (.inl hok)] at hR; cases hR
      · rfl
    rw [← hG, getText_on hs, ← folderAt_text]; rfl)
  obtain ⟨es, hes⟩ : ∃ es, entsOf (bs G.1) = es := ⟨_, rfl⟩
  obtain ⟨fo, hfo⟩ : ∃ fo, (readFolder (bs G.1)).isSome = fo := ⟨_, rfl⟩
  have HES := hid hes
  have HFO := hid hfo
  have hn3 : es.length ≤ 3 := by rw [← hes]; exact entsOf_len _
  obtain ⟨n, hn⟩ : ∃ n, es.length = n := ⟨_, rfl⟩
  have HN := hid hn
  rw [hn] at hn3
  have hfin : Hid (ok = true → fo = true → es.map (·.name) = L ∧ f = true) := hid (by
    rintro rfl rfl
    have h1 := HGF.out rfl
    have h2 := hRA.out
    rw [if_pos rfl, ← h1] at h2
    simp only [Prod.mk.injEq] at h2
    rw [← hes]
    exact ⟨h2.1, by rw [← h2.2]; exact hfo⟩)
  have hoff : Hid (ok = false ∨ fo = false → L = [] ∧ f = false) := hid (by
    intro hc
    have h2 := hRA.out
    rcases hc with rfl | rfl
    · simp at h2; exact ⟨h2.1, h2.2⟩
    · cases ok
      · simp at h2; exact ⟨h2.1, h2.2⟩
      · rw [if_pos rfl, ← HGF.out rfl] at h2
        have : readFolder (bs G.1) = none := by simpa using hfo
        rw [this] at h2
        simp at h2; exact ⟨h2.1, h2.2⟩)
  clear h hx0 hl0 hL hR hG hGs hes hfo hn hRA HGF
  go_enter Tryz.func62, Tryz.ntmps62
  go_wp2_with fail
  rw [← hW1]
  refine (spec_WalkTo_c _ xs root path _ _ HR.out (HP.out _ hal) HX.out HL0.out hp0).mono ?_
  rintro e w1 ⟨rfl, b1⟩
  have d1 := bl_then hal b1
  have own1 := hown0.on b1
  clear hW1 hal hown0 b1
  go_wp2_with fail
  refine (spec_GetText_c _ xs y _ (HP.out _ d1) HX.out HL0.out).mono ?_
  rw [HG.out]
  rintro e w2 ⟨rfl, z, rfl⟩
  obtain ⟨W2, hW2⟩ : ∃ W2, W2 = w1.drewN z := ⟨_, rfl⟩
  have d2 : Below w.heap.size w W2 := by rw [hW2]; exact bl_drewN d1 z
  have own2 := own1.drewN z
  rw [← hW2] at own2
  rw [← hW2]
  clear d1 own1 hW2
  go_wp2_with fail
  refine (spec_ReadFolder_c G.1 _ (Nat.le_trans HGs.out (by omega))).mono ?_
  rw [HFO.out, HES.out]
  rintro e w3 ⟨lv, rfl, o3, b3⟩
  have d3 := bl_then d2 b3
  have own3 := own2.on b3
  have hlt3 := hid o3.lt
  have hpb := hid fun g hg => (own2.lt g hg).2
  have hsz3 := b3.size
  obtain ⟨la, lc, rfl, _, _, _⟩ := (Rd.of_own o3).ents HN.out
  clear b3 own2 d2
  by_cases hgo : ok = true ∧ fo = true
  · obtain ⟨rfl, rfl⟩ := hgo
    obtain ⟨hLn, rfl⟩ := hfin.out rfl rfl
    have HLN := hid hLn
    clear hLn hfin hoff
    go_wp2
    go_loopw [8, 15] (fun out iv wr => ∃ (k : Nat) (acc : List ByteArray), k ≤ n ∧ iv = .int .i64 k ∧ OwnS wr w.heap.size out acc ∧ Hid (acc = (es.map (·.name)).take k) ∧ acc.length ≤ k ∧ OwnE wr W2.heap.size (.slice la n lc) es ∧ Hid (∀ g, out.ownBlock = some g → g < W2.heap.size ∨ w3.heap.size ≤ g) ∧ Below w.heap.size w wr ∧ w3.heap.size ≤ wr.heap.size) (fun _ iv _ => n - (intOf iv).toNat)
    case atStart => exact ⟨0, [], Nat.zero_le _, rfl, own3, rfl, Nat.zero_le _, o3, hid fun g hg => .inl (hpb.out g hg), d3, Nat.le_refl _⟩
    case round =>
      obtain ⟨k, acc, hk, rfl, hown, hacc, hlen, hol, hpb2, hb, hsz⟩ := hrel
      clear o3 own3 d3
      by_cases hlt : k < n
      · obtain ⟨_, _, hv, _, _, hcs⟩ := (Rd.of_own hol).ents HN.out
        simp only [Value.slice.injEq] at hv
        obtain ⟨e1, _, e2⟩ := hv
        subst e1
        subst e2
        obtain ⟨b, o, t, r, rfl, hbl, hx, k0, k1⟩ := hcs k hlt
        have hkn : (k : Int) < n := by omega
        have hB := hb.size
        have HT := hid (show acc ++ [t] = (es.map (·.name)).take (k + 1) by rw [take_snoc' (show (es.map (·.name))[k]? = some t by rw [List.getElem?_map, hx.out]; rfl), hacc.out])
        clear hcs k1
        go_wp2_with (at_builtin; refine push_str (w0 := w) rfl _ _ rfl w.heap.size w.heap.size _ acc t hown hb hB (Nat.le_refl _) rfl rfl (by omega) ?_; intro v' w' hown' hb' hB' hg')
        go_roundw
        case rel =>
          have hsz4 : w3.heap.size ≤ w'.heap.size := by have := hg'.1.size; omega
          refine ⟨k + 1, _, by omega, by go_num, hown', HT, by simp; omega, Own.kept hol hg'.1 ?_, hid fun g hg => ?_, hb', hsz4⟩
          · refine .inr (fun e => ?_)
            have h5 := hlt3.out b rfl
            rcases hpb2.out b e.symm with h6 | h6
            · omega
            · omega
          · rcases hg'.2 g hg with h6 | h6
            · exact hpb2.out g h6
            · exact .inr (by omega)
        case measure => simp [intOf]; omega
      · have HA := hid (show acc = L by rw [← HLN.out, hacc.out, take_all (show (es.map (·.name)).length = n by rw [List.length_map]; exact HN.out) (show n ≤ k by omega)])
        go_wp2
        go_ret2
        exact ⟨_, rfl, by rw [← HA.out]; exact hown, hb⟩
  · have hc : ok = false ∨ fo = false := by
      cases ok
      · exact .inl rfl
      · cases fo
        · exact .inr rfl
        · exact absurd ⟨rfl, rfl⟩ hgo
    obtain ⟨rfl, rfl⟩ := hoff.out hc
    clear hfin hoff
    cases ok
    · clear hc hgo
      go_wp2
      go_ret2
      exact ⟨_, rfl, own3, d3⟩
    · obtain rfl : fo = false := by
        rcases hc with h | h
        · cases h
        · exact h
      clear hc hgo
      go_wp2
      go_ret2
      exact ⟨_, rfl, own3, d3⟩

end Go.Proofs.YtachfmlfmpaddaaGreatDoor

/- Walks: right proofs of absence, the program's way. -/
namespace Go.Proofs.YtachfmlfmpaddaaGreatDoor
open Go.RowKit

noncomputable def lastOff (es : Option (List Ent)) (nm : ByteArray) : Bool := match es with | some l => (firstOf l nm).isNone | none => false
noncomputable def absRight (root : Int) (path : List UInt8) (proof : List ByteArray) : Bool := match pathParts path with
  | some ws => decide (1 ≤ proof.length ∧ proof.length ≤ ws.length) && onWay root (ws.map strL) proof && lastOff (readFolder (bs (proof.getLastD ByteArray.empty))) ((ws.map strL).getD (proof.length - 1) ByteArray.empty)
  | none => false

set_option maxHeartbeats 2000000 in
set_option maxRecDepth 100000 in
theorem impl_AbsenceRight_c (root : Int) (path : ByteArray) (tv : Value) (proof : List ByteArray) (w : World) (R : Bool) (hR : absRight root (bs path) proof = R) (ht : Strs w w.heap.size tv proof) (hs : ∀ t ∈ proof, t.size ≤ 1048576) (hp0 : path.size ≤ 1000) (hg : Glob w) (hm : Mx w) :
    Calls Tryz.prog 25 #[.int .i64 root, .string path, tv] w fun e w' => e = .returned (.bool R) ∧ Below w.heap.size w w' := by
  have HT : Hid (∀ wx, Below w.heap.size w wx → Strs wx wx.heap.size tv proof) := hid fun wx hx' => ht.on hx'
  obtain ⟨n, hn⟩ : ∃ n, proof.length = n := ⟨_, rfl⟩
  obtain ⟨ta, tc, rfl, _, _, h3⟩ := ht.strs hn
  have HN := hid hn
  have H3 := hid h3
  have HS := hid hs
  have HG := hid hg
  obtain ⟨P, hP⟩ : ∃ P, pathParts (bs path) = P := ⟨_, rfl⟩
  have HP := hid hP
  have HR := hid hR
  clear ht hn hs hg hP h3 hR
  cases P with
  | none =>
    obtain rfl : R = false := by rw [← HR.out]; unfold absRight; rw [HP.out]
    go_enter Tryz.func25, Tryz.ntmps25
    go_wp2_with fail
    refine (impl_PathParts_c path _ hp0 hm).mono ?_
    rw [HP.out]
    rintro e w1 ⟨pv, rfl, o1, b1⟩
    clear o1
    go_wp2
    go_ret
    exact ⟨rfl, b1⟩
  | some ws =>
    have HPS := hid (parts_small HP.out)
    obtain ⟨m, hml⟩ : ∃ m, (ws.map strL).length = m := ⟨_, rfl⟩
    have HM := hid hml
    have hm3 : m ≤ 3 := by rw [← hml]; exact HPS.out.2
    have HO := hid (show (decide (1 ≤ n ∧ n ≤ m) && onWay root (ws.map strL) proof && lastOff (readFolder (bs (proof.getLastD ByteArray.empty))) ((ws.map strL).getD (n - 1) ByteArray.empty)) = R by
      rw [← HR.out]; unfold absRight; rw [HP.out, ← hml, List.length_map, HN.out])
    clear hml HR
    by_cases hlen : 1 ≤ n ∧ n ≤ m
    · obtain ⟨q, hq⟩ : ∃ q, n - 1 = q := ⟨_, rfl⟩
      obtain ⟨b, o, t, rfl, hbl, hx, k0⟩ := H3.out q (by omega)
      obtain ⟨nm, hnm⟩ : ∃ nm, (ws.map strL)[q]? = some nm := ⟨_, List.getElem?_eq_getElem (by have := HM.out; omega)⟩
      have HNM := hid hnm
      obtain ⟨z, hz⟩ : ∃ z, onWay root (ws.map strL) proof = z := ⟨_, rfl⟩
      obtain ⟨F, hF⟩ : ∃ F, readFolder (bs t) = F := ⟨_, rfl⟩
      have HZ := hid hz
      have HF := hid hF
      have HES := hid (show entsOf (bs t) = F.getD [] by unfold entsOf; rw [hF])
      have HQ2 := hid (show (z && lastOff F nm) = R by
        rw [← HO.out, hz, ← hF]
        have e1 : proof.getLastD ByteArray.empty = t := by
          have h1 := hx.out
          rw [List.getLastD_eq_getLast?, List.getLast?_eq_getElem?, HN.out, hq, h1]; rfl
        have e2 : (ws.map strL).getD (n - 1) ByteArray.empty = nm := by rw [hq, List.getD_eq_getElem?_getD, hnm]; rfl
        rw [e1, e2]; simp [hlen])
      have hh0 : ¬ (n : Int) < 1 := by omega
      have hh1 : ¬ (m : Int) < n := by omega
      have hw1 : IntKind.i64.wrap ((n : Int) - 1) = (q : Int) := by rw [IntWalk.i64_in _ (by omega)]; omega
      have hqn : (q : Int) < n := by omega
      have hqm : (q : Int) < m := by omega
      have hqm' : q < m := by omega
      have HK := hid k0
      have HTS := hid (HS.out t (List.mem_of_getElem? hx.out))
      have HL := hid (show proof.length ≤ (ws.map strL).length + 1 by rw [HN.out, HM.out]; omega)
      clear hnm hz hF HO k0 hq hlen hx H3
      go_enter Tryz.func25, Tryz.ntmps25
      go_wp2_with fail
      refine (impl_PathParts_c path _ hp0 hm).mono ?_
      rw [HP.out]
      rintro e w1 ⟨pv, rfl, o1, b1⟩
      have r1 : Strs w1 w1.heap.size pv (ws.map strL) := Rd.of_own o1
      have R1 := hid r1
      obtain ⟨pa, pc, rfl, _, _, hp3⟩ := r1.strs HM.out
      obtain ⟨b', o', nm', rfl, hbl', hx', k1⟩ := hp3 q hqm'
      obtain rfl : nm' = nm := Option.some.inj (hx'.out.symm.trans HNM.out)
      have HK1 := hid k1
      clear o1 r1 hp3 k1 hx'
      go_wp2_with fail
      refine (impl_onTheWay_c root _ _ (ws.map strL) proof _ z HZ.out R1.out (HT.out _ b1) HL.out HS.out (HG.out.on b1)).mono ?_
      rintro e w2 ⟨rfl, b2⟩
      have d2 := bl_then b1 b2
      have j0 := (d2.cell (p := ⟨b, o + q, none⟩) hbl).trans HK.out
      have l2 := (b2.cell (p := ⟨b', o' + q, none⟩) hbl').trans HK1.out
      cases z
      · obtain rfl : R = false := by rw [← HQ2.out]; rfl
        go_wp2
        go_ret
        exact ⟨rfl, d2⟩
      go_wp2_with fail
      refine (impl_ReadFolder_c t _ HTS.out (HG.out.on d2)).mono ?_
      rw [HES.out, HF.out]
      rintro e w3 ⟨lv, rfl, o3, b3⟩
      have d3 := bl_then d2 b3
      have l3 := (b3.cell (p := ⟨b', o' + q, none⟩) (Nat.lt_of_lt_of_le hbl' b2.size)).trans l2
      cases F with
      | none =>
        obtain rfl : R = false := by rw [← HQ2.out]; rfl
        clear o3
        go_wp2
        go_ret
        exact ⟨rfl, d3⟩
      | some es =>
        have L3 : Hid (Ents w3 w3.heap.size lv es) := hid (Rd.of_own o3)
        have HEO := hid (readFolder_some HF.out).1
        obtain ⟨Q, hQ⟩ : ∃ Q, firstOf es nm' = Q := ⟨_, rfl⟩
        have HQ := hid hQ
        obtain rfl : R = Q.isNone := by rw [← HQ2.out, ← hQ]; rfl
        clear o3 hQ
        go_wp2_with fail
        refine (impl_printNamed_c _ es nm' _ Q HQ.out L3.out HEO.out).mono ?_
        rintro e w4 ⟨rfl, b4⟩
        have d4 := bl_then d3 b4
        cases Q
        · go_wp2
          go_ret
          exact ⟨rfl, d4⟩
        · go_wp2
          go_ret
          exact ⟨rfl, d4⟩
    · obtain rfl : R = false := by rw [← HO.out]; simp [hlen]
      have hd0 : (n : Int) < 1 ∨ (m : Int) < n := by omega
      go_enter Tryz.func25, Tryz.ntmps25
      go_wp2_with fail
      refine (impl_PathParts_c path _ hp0 hm).mono ?_
      rw [HP.out]
      rintro e w1 ⟨pv, rfl, o1, b1⟩
      have r1 : Strs w1 w1.heap.size pv (ws.map strL) := Rd.of_own o1
      obtain ⟨pa, pc, rfl, _, _, _⟩ := r1.strs HM.out
      clear o1 r1
      rcases hd0 with h0 | h0
      · go_wp2
        go_ret
        exact ⟨rfl, b1⟩
      · have h1 : ¬ (n : Int) < 1 := by omega
        go_wp2
        go_ret
        exact ⟨rfl, b1⟩

end Go.Proofs.YtachfmlfmpaddaaGreatDoor

/- Walks: drawn stores with roots. -/
namespace Go.Proofs.YtachfmlfmpaddaaGreatDoor
open Go.RowKit

/-- A drawn store with roots. -/
def RootsB (w : World) (m : Nat) (e : Ending) (w' : World) : Prop :=
  ∃ (v u : Value) (xs : List Pc) (ns : List Int), e = .returned (.tuple #[v, u]) ∧ OwnP w' w.heap.size v xs ∧ Drawn xs ∧ OwnI w' w.heap.size u ns ∧ ns.length ≤ m ∧ Below w.heap.size w w'

set_option maxHeartbeats 2000000 in
set_option maxRecDepth 100000 in
theorem spec_l20Roots_c (v : Value) (l0 : List Int) (w : World) (h : Rd encU 1 w w.heap.size v l0) (hl : ∀ x ∈ l0, 0 ≤ x ∧ x ≤ 255) :
    Calls Tryz.prog 119 #[v] w (RootsB w 4) := by
  go_enter Tryz.func119, Tryz.ntmps119
  go_wp2_with fail
  refine (spec_l20Open_c v l0 w h hl).mono ?_
  rintro e w0 ⟨l, rfl, r0, b0⟩
  clear h hl
  obtain ⟨g, hg⟩ : ∃ g, w.heap.size = g := ⟨_, rfl⟩
  rw [hg] at r0 ⊢
  have HGG := hid hg
  clear hg
  have hgl : g < w0.heap.size := r0.lt
  have HB0 := hid b0
  clear b0
  go_wp2_with fail
  refine (spec_l20Store_c g 0 l 9 w0 r0 (by omega) (by omega) (by omega)).mono ?_
  rintro e w1 ⟨v, xs, root, p1, rfl, o1, _, hd, hp1, r1, g1⟩
  obtain ⟨n, hn⟩ : ∃ n, xs.length = n := ⟨_, rfl⟩
  have HN := hid hn
  have hnp : 0 < n := by
    rw [← hn]
    have h0 := hd.1
    cases xs with
    | nil => exact absurd rfl h0
    | cons x r => simp
  have hn41 : n ≤ 41 := by rw [← hn]; exact hd.2.1
  obtain ⟨gs, c, rfl, hgs0, hgs, hnc⟩ := own_pc_slice o1 hn hnp
  have O1 := hid o1
  have HD := hid hd
  have R1 := hid r1
  have G1 := hid g1
  have s1 := g1.size
  obtain ⟨B, hB⟩ : ∃ B, w1.heap.size = B := ⟨_, rfl⟩
  have HBB := hid hB
  have hown0 : Hid (OwnI (w1.alloc (.cells #[] 3)) B (.slice (some ⟨w1.heap.size, 0, none⟩) 0 0) []) := hid (Own.made _ (by omega))
  clear o1 hd r1 g1 r0 hn hB
  go_wp2_with fail
  refine (spec_pick_c g p1 l 4 _ (R1.out.alloc _) (by omega)).mono ?_
  rintro e w2 ⟨x, rfl, x0, x3, _, r2, g2⟩
  have x3' := x3 (by omega)
  obtain ⟨m, rfl⟩ : ∃ m : Nat, x = m := ⟨x.toNat, by omega⟩
  have R2 := hid r2
  have G2 := hid (G1.out.trans (gb_unalloc g2))
  have O2 := hid ((O1.out.alloc _).far g2 (fun b hb => by simp at hb; omega))
  have A2 := hid (hown0.out.far g2 (fun b hb => by simp at hb; have := HBB.out; omega))
  have s2 := g2.size
  clear r2 g2 x3 O1 hown0 R1 G1
  go_wp2
  go_loopw [7, 8] (fun uv kv wr => ∃ (ov : Value) (q p' : Nat) (ns : List Int), ov = uv ∧ B ≤ wr.heap.size ∧ q ≤ m ∧ kv = .int .i64 q ∧ Hid (OwnI wr B uv ns) ∧ ns.length + q = m ∧ Hid (OwnP wr w0.heap.size (.slice (some ⟨gs, 0, none⟩) n c) xs) ∧ p' + 80 * q ≤ p1 + 1 + 80 * m ∧ Hid (Reader wr g l p') ∧ Hid (w0.grownBy wr (some g))) (fun _ k _ => (intOf k).toNat)
  case atStart => exact ⟨_, m, p1 + 1, [], rfl, by simp at s2; have := HBB.out; omega, Nat.le_refl _, rfl, A2, by simp, O2, by omega, R2, G2⟩
  case round =>
    obtain ⟨ov, q, pq, acc, rfl, hbw, hq, rfl, A, hal, O, hp', R, G⟩ := hrel
    clear A2 O2 R2 G2
    by_cases hq0 : 0 < q
    · have hq0' : (0 : Int) < q := by omega
      go_wp2
      refine drew_out wr ⟨0, rfl⟩ ?_
      rintro W0 ⟨z00, hW0⟩
      have hw05 : Below wr.heap.size wr W0 := by rw [hW0]; exact bl_drewN (Below.refl _ _) z00
      have HRW := hid (R.out.on hw05)
      have HOW := hid (A.out.on hw05)
      have HAC := hid (show acc.length ≤ 100 by omega)
      have hgW := HRW.out.lt
      have hBW : B ≤ W0.heap.size := by have := hw05.size; omega
      have hgB : g < B := by have := HBB.out; omega
      have hgsB : gs < B := by have := HBB.out; omega
      have HOV := hid (show ∀ b, ov.ownBlock = some b → b < W0.heap.size from fun b hb => (HOW.out.lt b hb).2)
      have HSC := hid (show ∀ wk, Frm (fun k => k = g ∨ ov.ownBlock = some k) W0 wk → ∀ j, j < n → ∃ y : Int, wk.cell? ⟨gs, j * 2, none⟩ = some (.int .i64 y) from fun wk hf j hj => by
        obtain ⟨a', c', hv', _, _, h3'⟩ := ((Rd.of_own O.out).on hw05).pcs HN.out
        simp only [Value.slice.injEq] at hv'
        obtain ⟨rfl, _, rfl⟩ := hv'
        obtain ⟨b, o, r, t, hbo, hbl, hx, k0, _⟩ := h3' j hj
        simp only [Option.some.injEq, Addr.mk.injEq, and_true] at hbo
        obtain ⟨rfl, rfl⟩ := hbo
        rw [Nat.zero_add] at k0
        refine ⟨r, ?_⟩
        rw [← k0]
        refine World.cell?_of_block (hf.block gs hbl (fun e => ?_))
        rcases e with rfl | e
        · omega
        · have := (HOW.out.lt _ e).1; omega)
      have OO := hid (O.out.on hw05)
      have GG := hid (G.out.trans (gb_of_below hw05 (some g)))
      have hpq9 : pq ≤ 1000 := by omega
      clear hW0 A O R G hw05
      refine wp_region_inv3f rfl (by kernel_rfl) (by kernel_rfl) (by kernel_rfl) (by kernel_rfl) (by simp) (QJ W0 g l pq ov B acc 18) (fun j w' w'' => Frm (fun k => k = g ∨ (j = 18 ∧ ov.ownBlock = some k)) w' w'') (fact [isV (ov), isV (.int .i64 root), isV (.slice (some ⟨gs, 0, none⟩) n c), isV (.pointer (some ⟨g, 0, none⟩)), isV (.slice (some ⟨gs, 0, none⟩) n c), isV (.int .i64 n), isI 0 (n - 1), isPcP gs n, isPcP gs n, isN, isV (.pointer (some ⟨g, 0, none⟩)), isN, isIRow g ov 3, isV (.pointer (some ⟨g, 0, none⟩)), isI 0 (3 - 1), isICell g ov, isN, isLitI g ov, isMore B acc, isMore B acc]) (fun _ _ => false) ⟨pq, by omega, HRW.out.drewR, Frm.of_below (bl_drewN (Below.refl _ _) 1), fun _ => HOW.out.drewN 1⟩ ?hF ?grd ?oo ?cg ?fin
      case hF =>
        intro j i v w' w'' hS hc hne hwt hdp hf
        have hi : i < 20 ∨ 20 ≤ i := by omega
        rcases hi with hi | hi
        · obtain rfl | rfl | rfl | rfl | rfl | rfl | rfl | rfl | rfl | rfl | rfl | rfl | rfl | rfl | rfl | rfl | rfl | rfl | rfl | rfl : i = 0 ∨ i = 1 ∨ i = 2 ∨ i = 3 ∨ i = 4 ∨ i = 5 ∨ i = 6 ∨ i = 7 ∨ i = 8 ∨ i = 9 ∨ i = 10 ∨ i = 11 ∨ i = 12 ∨ i = 13 ∨ i = 14 ∨ i = 15 ∨ i = 16 ∨ i = 17 ∨ i = 18 ∨ i = 19 := by omega
          · exact hf
          · exact hf
          · exact hf
          · exact hf
          · exact hf
          · exact hf
          · exact hf
          · exact hf
          · exact hf
          · exact hf
          · exact hf
          · exact hf
          · exact isIRow_frm hS hf
          · exact hf
          · exact hf
          · exact isICell_frm hS hf
          · exact hf
          · exact isLitI_frm hS hf
          · exact isMore_frm hgB (fun e => hne e.symm) hS hf
          · exact isMore_frm hgB (by rintro rfl; exact absurd (hwt.symm.trans (c := true) (by kernel_rfl)) (by decide)) hS hf
        · unfold fact at *; rw [List.getD_eq_getElem?_getD, List.getElem?_eq_none (by simpa using hi)]; trivial
      case grd =>
        intro i oo d bb hi hg v w' hf
        obtain ⟨hlt1, rfl⟩ := Array.getElem?_eq_some_iff.1 hi
        have hlt' : i < 20 := hlt1
        clear hi
        obtain rfl | rfl | rfl | rfl | rfl | rfl | rfl | rfl | rfl | rfl | rfl | rfl | rfl | rfl | rfl | rfl | rfl | rfl | rfl | rfl : i = 0 ∨ i = 1 ∨ i = 2 ∨ i = 3 ∨ i = 4 ∨ i = 5 ∨ i = 6 ∨ i = 7 ∨ i = 8 ∨ i = 9 ∨ i = 10 ∨ i = 11 ∨ i = 12 ∨ i = 13 ∨ i = 14 ∨ i = 15 ∨ i = 16 ∨ i = 17 ∨ i = 18 ∨ i = 19 := by omega
        all_goals simp at hg
      case cg =>
        intro i oo d bb hi hg j
        rfl
      case oo =>
        intro i oo hi L qn a' wk hnn hL hj hb' hd
        have hnn' : qn < 20 := hnn
        obtain ⟨hlt1, rfl⟩ := Array.getElem?_eq_some_iff.1 hi
        have hlt' : i < 20 := hlt1
        clear hi hnn
        obtain rfl | rfl | rfl | rfl | rfl | rfl | rfl | rfl | rfl | rfl | rfl | rfl | rfl | rfl | rfl | rfl | rfl | rfl | rfl | rfl : i = 0 ∨ i = 1 ∨ i = 2 ∨ i = 3 ∨ i = 4 ∨ i = 5 ∨ i = 6 ∨ i = 7 ∨ i = 8 ∨ i = 9 ∨ i = 10 ∨ i = 11 ∨ i = 12 ∨ i = 13 ∨ i = 14 ∨ i = 15 ∨ i = 16 ∨ i = 17 ∨ i = 18 ∨ i = 19 := by omega
        · have b7 : a'.eval (.tmp 7) = ov := hb' 7 (by kernel_rfl); have c7 := ev_get b7
          exact iv_val (v := ov) (by simp [execOp, b7]) ⟨_, rfl, QJ.step hj, Frm.refl _ _, rfl⟩
        · have b6 : a'.eval (.tmp 6) = .int .i64 root := hb' 6 (by kernel_rfl); have c6 := ev_get b6
          exact iv_val (v := .int .i64 root) (by simp [execOp, b6]) ⟨_, rfl, QJ.step hj, Frm.refl _ _, rfl⟩
        · have b5 : a'.eval (.tmp 5) = .slice (some ⟨gs, 0, none⟩) n c := hb' 5 (by kernel_rfl); have c5 := ev_get b5
          exact iv_val (v := .slice (some ⟨gs, 0, none⟩) n c) (by simp [execOp, b5]) ⟨_, rfl, QJ.step hj, Frm.refl _ _, rfl⟩
        · have b4 : a'.eval (.tmp 4) = .pointer (some ⟨g, 0, none⟩) := hb' 4 (by kernel_rfl); have c4 := ev_get b4
          exact iv_val (v := .pointer (some ⟨g, 0, none⟩)) (by simp [execOp, b4]) ⟨_, rfl, QJ.step hj, Frm.refl _ _, rfl⟩
        · have b5 : a'.eval (.tmp 5) = .slice (some ⟨gs, 0, none⟩) n c := hb' 5 (by kernel_rfl); have c5 := ev_get b5
          exact iv_val (v := .slice (some ⟨gs, 0, none⟩) n c) (by simp [execOp, b5]) ⟨_, rfl, QJ.step hj, Frm.refl _ _, rfl⟩
        · have v4 : a'.eval (.tmp 27) = .slice (some ⟨gs, 0, none⟩) n c := hd ⟨4, .data⟩ (by simp) rfl (fun j _ hc => by cases hc); have u4 := ev_get v4
          exact iv_val (v := .int .i64 n) (by simp [execOp, u4, go_sem]) ⟨_, rfl, QJ.step hj, Frm.refl _ _, rfl⟩
        · have v3 : a'.eval (.tmp 26) = .pointer (some ⟨g, 0, none⟩) := hd ⟨3, .data⟩ (by simp) rfl (fun j _ hc => by cases hc); have u3 := ev_get v3
          have v5 : a'.eval (.tmp 28) = .int .i64 n := hd ⟨5, .data⟩ (by simp) rfl (fun j _ hc => by cases hc); have u5 := ev_get v5
          obtain ⟨p', hp', hr, hfm, how⟩ := hj
          refine iv_enter (f := 101) (args := #[.pointer (some ⟨g, 0, none⟩), .int .i64 n]) (by simp [execOp, u3, u5, go_sem]) ?_
          refine (spec_pick_c g p' l n wk hr (by omega)).mono ?_
          rintro e w9 ⟨x9, rfl, x90, x91, _, r9, g9⟩
          have x92 := x91 (by omega)
          exact ⟨_, rfl, _, rfl, QJ.read hgB (by decide) ⟨p', hp', hr, hfm, how⟩ r9 (by omega) g9, Frm.of_grown g9 (fun b hb => .inl (Option.some.inj hb).symm), (show isI 0 (n - 1) _ w9 from ⟨x9, rfl, x90, by omega⟩)⟩
        · have v2 : a'.eval (.tmp 25) = .slice (some ⟨gs, 0, none⟩) n c := hd ⟨2, .data⟩ (by simp) rfl (fun j _ hc => by cases hc); have u2 := ev_get v2
          have e6 : isI 0 ((n : Int) - 1) (a'.eval (.tmp 29)) wk := hd ⟨6, .data⟩ (by simp) rfl (fun j _ hc => by cases hc)
          obtain ⟨x6, v6, x60, x61⟩ := e6
          have u6 := ev_get v6
          obtain ⟨j, rfl⟩ : ∃ j : Nat, x6 = j := ⟨x6.toNat, by omega⟩
          have hjn : (j : Int) < n := by omega
          exact iv_val (v := .pointer (some ⟨gs, j * 2, none⟩)) (by simp [execOp, u2, u6, hjn, go_sem, Result.andThen]) ⟨_, rfl, QJ.step hj, Frm.refl _ _, (show isPcP gs n _ wk from ⟨j, by omega, rfl⟩)⟩
        · have e7 : isPcP gs n (a'.eval (.tmp 30)) wk := hd ⟨7, .data⟩ (by simp) rfl (fun j _ hc => by cases hc)
          obtain ⟨j, hjn, v7⟩ := e7
          have u7 := ev_get v7
          exact iv_val (v := .pointer (some ⟨gs, j * 2, none⟩)) (by simp [execOp, u7, go_sem, Result.andThen]) ⟨_, rfl, QJ.step hj, Frm.refl _ _, (show isPcP gs n _ wk from ⟨j, hjn, rfl⟩)⟩
        · have e8 : isPcP gs n (a'.eval (.tmp 31)) wk := hd ⟨8, .data⟩ (by simp) rfl (fun j _ hc => by cases hc)
          obtain ⟨j, hjn, v8⟩ := e8
          have u8 := ev_get v8
          obtain ⟨y, hy⟩ := HSC.out wk hj.frm j hjn
          exact iv_val (v := .int .i64 y) (by simp [execOp, u8, hy, go_sem, Result.andThen]) ⟨_, rfl, QJ.step hj, Frm.refl _ _, (show isN _ wk from ⟨y, rfl⟩)⟩
        · have b4 : a'.eval (.tmp 4) = .pointer (some ⟨g, 0, none⟩) := hb' 4 (by kernel_rfl); have c4 := ev_get b4
          exact iv_val (v := .pointer (some ⟨g, 0, none⟩)) (by simp [execOp, b4]) ⟨_, rfl, QJ.step hj, Frm.refl _ _, rfl⟩
        · have v10 : a'.eval (.tmp 33) = .pointer (some ⟨g, 0, none⟩) := hd ⟨10, .data⟩ (by simp) rfl (fun j _ hc => by cases hc); have u10 := ev_get v10
          obtain ⟨p', hp', hr, hfm, how⟩ := hj
          refine iv_enter (f := 128) (args := #[.pointer (some ⟨g, 0, none⟩), .int .i64 6]) (by simp [execOp, u10, go_sem]) ?_
          refine (spec_l20Print_c g p' l 6 wk hr (by omega) (by omega) (by omega)).mono ?_
          rintro e w9 ⟨x9, p9, rfl, hp9, r9, g9⟩
          exact ⟨_, rfl, _, rfl, QJ.read hgB (by decide) ⟨p', hp', hr, hfm, how⟩ r9 (by omega) g9, Frm.of_grown g9 (fun b hb => .inl (Option.some.inj hb).symm), (show isN _ w9 from ⟨x9, rfl⟩)⟩
        · have v1 : a'.eval (.tmp 24) = .int .i64 root := hd ⟨1, .data⟩ (by simp) rfl (fun j _ hc => by cases hc); have u1 := ev_get v1
          have e9 : isN (a'.eval (.tmp 32)) wk := hd ⟨9, .data⟩ (by simp) rfl (fun j _ hc => by cases hc)
          obtain ⟨y9, v9⟩ := e9
          have u9 := ev_get v9
          have e10 : isN (a'.eval (.tmp 34)) wk := hd ⟨11, .data⟩ (by simp) rfl (fun j _ hc => by cases hc)
          obtain ⟨y10, v10⟩ := e10
          have u10 := ev_get v10
          exact iv_val (v := .slice (some ⟨wk.heap.size, 0, none⟩) 3 3) (w' := wk.alloc (.cells #[.int .i64 root, .int .i64 y9, .int .i64 y10] 3)) (by simp [execOp, u1, u9, u10, go_sem, Result.andThen]) ⟨_, rfl, QJ.alloc (by decide) hj _, Frm.of_below ((Below.refl _ _).alloc (Nat.le_refl _) _), (show isIRow g ov 3 _ _ from ⟨wk.heap.size, _, rfl, hj.ne_g, hj.ne_o HOV.out, heap_alloc_new _ _, rfl, rfl⟩)⟩
        · have b4 : a'.eval (.tmp 4) = .pointer (some ⟨g, 0, none⟩) := hb' 4 (by kernel_rfl); have c4 := ev_get b4
          exact iv_val (v := .pointer (some ⟨g, 0, none⟩)) (by simp [execOp, b4]) ⟨_, rfl, QJ.step hj, Frm.refl _ _, rfl⟩
        · have v13 : a'.eval (.tmp 36) = .pointer (some ⟨g, 0, none⟩) := hd ⟨13, .data⟩ (by simp) rfl (fun j _ hc => by cases hc); have u13 := ev_get v13
          obtain ⟨p', hp', hr, hfm, how⟩ := hj
          refine iv_enter (f := 101) (args := #[.pointer (some ⟨g, 0, none⟩), .int .i64 3]) (by simp [execOp, u13, go_sem]) ?_
          refine (spec_pick_c g p' l 3 wk hr (by omega)).mono ?_
          rintro e w9 ⟨x9, rfl, x90, x91, _, r9, g9⟩
          have x92 := x91 (by omega)
          exact ⟨_, rfl, _, rfl, QJ.read hgB (by decide) ⟨p', hp', hr, hfm, how⟩ r9 (by omega) g9, Frm.of_grown g9 (fun b hb => .inl (Option.some.inj hb).symm), (show isI 0 (3 - 1) _ w9 from ⟨x9, rfl, x90, by omega⟩)⟩
        · have e12 : isIRow g ov 3 (a'.eval (.tmp 35)) wk := hd ⟨12, .data⟩ (by simp) rfl (fun j _ hc => by cases hc)
          obtain ⟨b12, cs12, v12, h12a, h12b, h12c, h12d, h12e⟩ := e12
          have u12 := ev_get v12
          have e13 : isI 0 (3 - 1) (a'.eval (.tmp 37)) wk := hd ⟨14, .data⟩ (by simp) rfl (fun j _ hc => by cases hc)
          obtain ⟨x6, v13, x60, x61⟩ := e13
          have u13 := ev_get v13
          obtain ⟨j, rfl⟩ : ∃ j : Nat, x6 = j := ⟨x6.toNat, by omega⟩
          have hjn : (j : Int) < 3 := by omega
          obtain ⟨y, hy⟩ := irow_cell h12c h12d h12e (j := j) (by omega)
          exact iv_val (v := .pointer (some ⟨b12, j, none⟩)) (by simp [execOp, u12, u13, hjn, go_sem, Result.andThen]) ⟨_, rfl, QJ.step hj, Frm.refl _ _, (show isICell g ov _ wk from ⟨b12, j, y, rfl, h12a, h12b, hy⟩)⟩
        · have e14 : isICell g ov (a'.eval (.tmp 38)) wk := hd ⟨15, .data⟩ (by simp) rfl (fun j _ hc => by cases hc)
          obtain ⟨b14, i14, y14, v14, _, _, h14⟩ := e14
          have u14 := ev_get v14
          exact iv_val (v := .int .i64 y14) (by simp [execOp, u14, h14, go_sem, Result.andThen]) ⟨_, rfl, QJ.step hj, Frm.refl _ _, (show isN _ wk from ⟨y14, rfl⟩)⟩
        · have e15 : isN (a'.eval (.tmp 39)) wk := hd ⟨16, .data⟩ (by simp) rfl (fun j _ hc => by cases hc)
          obtain ⟨y15, v15⟩ := e15
          have u15 := ev_get v15
          exact iv_val (v := .slice (some ⟨wk.heap.size, 0, none⟩) 1 1) (w' := wk.alloc (.cells #[.int .i64 y15] 3)) (by simp [execOp, u15, go_sem, Result.andThen]) ⟨_, rfl, QJ.alloc (by decide) hj _, Frm.of_below ((Below.refl _ _).alloc (Nat.le_refl _) _), (show isLitI g ov _ _ from ⟨wk.heap.size, y15, rfl, hj.ne_g, hj.ne_o HOV.out, heap_alloc_new _ _⟩)⟩
        · have v0 : a'.eval (.tmp 23) = ov := hd ⟨0, .data⟩ (by simp) rfl (fun j _ hc => by cases hc); have u0 := ev_get v0
          have e16 : isLitI g ov (a'.eval (.tmp 40)) wk := hd ⟨17, .data⟩ (by simp) rfl (fun j _ hc => by cases hc)
          obtain ⟨b16, y16, v16, _, _, h16⟩ := e16
          obtain ⟨p', hp', hr, hfm, how⟩ := hj
          have how1 := how hL
          obtain ⟨i0, hi0, hz0, hz1, hz2⟩ := info_parts info_int
          refine wp_cat (enc := encI) wk (.tmp 23) (.tmp 40) 44 rfl B 3 i0 _ 1 8 Tryz.underlying44 hi0 hz0 hz1 hz2 rfl (by decide) ov (.slice (some ⟨b16, 0, none⟩) 1 1) acc [y16] v0 v16 how1 _ (lit_rdN h16) (by simp [Value.oneCell']) (by have := HAC.out; simp <;> omega) (by decide) (Nat.le_trans hBW hfm.size) ?_
          intro v' w' ho hg hg'
          exact ⟨_, rfl, QJ.appd ⟨p', hp', hr, hfm, how⟩ hg (fun b hb => by have := (Own.lt how1 b hb).1; omega), Frm.of_grown hg (fun b hb => .inr ⟨rfl, hb⟩), (show isMore B acc _ _ from ⟨y16, ho⟩)⟩
        · have e17 : isMore B acc (a'.eval (.tmp 41)) wk := hd ⟨18, .data⟩ (by simp) rfl (fun j _ hc => by cases hc)
          exact iv_val (v := a'.eval (.tmp 41)) (by simp [execOp]) ⟨_, rfl, QJ.step hj, Frm.refl _ _, e17⟩
      case fin =>
        intro tm w9 hLL hF
        obtain ⟨LL, _, p9, hp9, r9, fm9, _⟩ := hLL
        have o15 : isMore B acc (tm.getD 7 undef) w9 := hF 19 _ rfl (fun j => rfl)
        clear hF
        simp only [refillL, List.setIfInBounds_toArray, List.set_cons_succ, List.set_cons_zero]
        obtain ⟨sv, hsv⟩ : ∃ sv, tm.getD 7 undef = sv := ⟨_, rfl⟩
        rw [hsv] at o15 ⊢
        clear hsv
        obtain ⟨y15, o15⟩ := o15
        have O15 := hid o15
        have R15 := hid r9
        have F15 := hid fm9
        have hp9' : p9 ≤ pq + 80 := hp9
        have hB9 : B ≤ w9.heap.size := Nat.le_trans hBW fm9.size
        clear o15 r9 fm9 hp9
        have OP := hid (OO.out.frm F15.out (fun b hb e => by
          simp [Value.ownBlock] at hb
          rcases e with rfl | e
          · omega
          · have := (HOW.out.lt b e).1; omega))
        have GP := hid (show w0.grownBy w9 (some g) from gb_frm GG.out F15.out (fun b hb => by have := (HOW.out.lt b hb).1; have := HBB.out; omega))
        clear OO GG HRW HOW HOV HSC F15
        go_wp2
        go_roundw
        case rel => exact ⟨_, q - 1, p9, _, rfl, hB9, by omega, by go_num, O15, by simp; omega, OP, by omega, R15, GP⟩
        case measure => simp [intOf]; omega
    · have hg0 := HB0.out.size
      have d9 := HB0.out.grown G.out hg0 (fun b hb => by have := HGG.out; simp at hb; omega)
      go_wp2
      go_ret2
      exact ⟨_, _, xs, acc, rfl, O.out.less hg0, HD.out, A.out.less (by have := HBB.out; omega), by omega, d9⟩


set_option maxHeartbeats 2000000 in
set_option maxRecDepth 100000 in
theorem spec_DrawSweepStore_c (v : Value) (l0 : List Int) (w : World) (h : Rd encU 1 w w.heap.size v l0) (hl : ∀ x ∈ l0, 0 ≤ x ∧ x ≤ 255) :
    Calls Tryz.prog 53 #[v] w (RootsB w 4) := by
  go_enter Tryz.func53, Tryz.ntmps53
  go_wp2_with fail
  refine (spec_l20Roots_c v l0 w h hl).mono ?_
  rintro e w1 ⟨u, t, xs, ns, rfl, o, hd, a, hn, b⟩
  go_wp2
  go_ret2
  exact ⟨_, _, xs, ns, rfl, o, hd, a, hn, b⟩

end Go.Proofs.YtachfmlfmpaddaaGreatDoor
