/- Walks and plain facts, joined: PathI, DropE, LwP, Reach. -/
import Derived.Test.YtachfmlfmpaddaaGreatDoorMg1
import Derived.Test.YtachfmlfmpaddaaGreatDoorMg3
import Derived.Test.YtachfmlfmpaddaaGreatDoorMg8
import Derived.Test.YtachfmlfmpaddaaGreatDoorMg11
import Derived.Test.YtachfmlfmpaddaaGreatDoorMg14
import Derived.Test.YtachfmlfmpaddaaGreatDoorMg15
import Derived.Test.YtachfmlfmpaddaaGreatDoorMg16
import Derived.Test.YtachfmlfmpaddaaGreatDoorMg18
import Derived.Test.YtachfmlfmpaddaaGreatDoorMg20
import Derived.Deep.LoopGhost
import Derived.WalkSmall
import Derived.OneCell
set_option linter.unusedVariables false
set_option linter.unusedSimpArgs false

/- Walks: files' texts, joined paths and a path's words, the program's way. -/
namespace Go.Proofs.YtachfmlfmpaddaaGreatDoor
open Go.RowKit

/-- The library's variable that some searches read holds a number. -/
def Mx (w : World) : Prop := ∃ m, w.cell? ⟨0, 0, none⟩ = some (.int .i64 m)
theorem Mx.on {w w' : World} (h : Mx w) (hb : Below w.heap.size w w') : Mx w' := by
  obtain ⟨m, hm⟩ := h
  refine ⟨m, ?_⟩
  have hlt : 0 < w.heap.size := by
    unfold World.cell? at hm
    cases hh : w.heap[0]? with
    | none => simp [hh] at hm
    | some o => exact (Array.getElem?_eq_some_iff.1 hh).1
  exact (hb.cell (p := ⟨0, 0, none⟩) hlt).trans hm

set_option maxHeartbeats 2000000 in
set_option maxRecDepth 100000 in
theorem impl_ContentValid_c (s : ByteArray) (w : World) (hs : s.size ≤ 1000000) :
    Calls Tryz.prog 80 #[.string s] w fun e w' => e = .returned (.bool (contOk (bs s))) ∧ w = w' := by
  have hbl := bs_lenH s
  obtain ⟨y, hy⟩ : ∃ y, textOk (bs s) = y := ⟨_, rfl⟩
  have HY := hid hy
  have HO := hid (show contOk (bs s) = (y && decide (s.size ≤ 40)) by unfold contOk; rw [hy, hbl])
  clear hy
  go_enter Tryz.func80, Tryz.ntmps80
  go_wp2_with (go_at_call 108; refine (impl_TextValid_c s _).mono ?_; rw [HY.out]; rintro e w' ⟨rfl, rfl⟩)
  all_goals go_ret
  all_goals exact ⟨ret_b (by rw [HO.out]; simp_all; try omega), rfl⟩

theorem fileText_cat {s : ByteArray} (hy : contOk (bs s) = true) : strL (fileText (bs s)) = (⟨#[102]⟩ : ByteArray) ++ s := by
  have e1 : (⟨#[102]⟩ : ByteArray) = strL [102] := rfl
  rw [e1]
  conv => rhs; rw [← strL_bs s]
  rw [strL_append]
  unfold fileText; rw [hy]; simp

set_option maxHeartbeats 2000000 in
set_option maxRecDepth 100000 in
theorem impl_FileText_c (s : ByteArray) (w : World) (hs : s.size ≤ 1000000) :
    Calls Tryz.prog 33 #[.string s] w fun e w' => e = .returned (.string (strL (fileText (bs s)))) ∧ w = w' := by
  cases hy : contOk (bs s)
  · have HO := hid (show fileText (bs s) = [] by unfold fileText; rw [hy]; rfl)
    have HY := hid hy
    clear hy
    go_enter Tryz.func33, Tryz.ntmps33
    go_wp2_with (go_at_call 80; refine (impl_ContentValid_c s _ hs).mono ?_; rw [HY.out]; rintro e w' ⟨rfl, rfl⟩)
    go_ret
    exact ⟨by rw [HO.out]; rfl, rfl⟩
  · have HO := hid (fileText_cat hy)
    have HY := hid hy
    have e1 : (⟨#[102]⟩ : ByteArray).size = 1 := rfl
    have hq : (⟨#[102]⟩ : ByteArray).size + s.size ≤ 9223372036854775807 := by omega
    clear hy
    go_enter Tryz.func33, Tryz.ntmps33
    go_wp2_with (go_at_call 80; refine (impl_ContentValid_c s _ hs).mono ?_; rw [HY.out]; rintro e w' ⟨rfl, rfl⟩)
    go_ret
    exact ⟨by rw [HO.out]; rfl, rfl⟩

/-- What ReadFile reads. -/
def fileC (l : List UInt8) : List UInt8 := if isFile l then l.drop 1 else []
theorem fileC_no {l : List UInt8} (h : isFile l = false) : fileC l = [] := by unfold fileC; rw [h]; rfl
theorem fileC_yes {r : List UInt8} (h : contOk r = true) : fileC (102 :: r) = r := by unfold fileC isFile; simp [h]
theorem isFile_cons (c : UInt8) (r : List UInt8) : isFile (c :: r) = (decide (c = 102) && contOk r) := rfl

set_option maxHeartbeats 2000000 in
set_option maxRecDepth 100000 in
theorem impl_ReadFile_c (s : ByteArray) (w : World) (hs : s.size ≤ 1000000) :
    Calls Tryz.prog 65 #[.string s] w fun e w' => e = .returned (.tuple #[.string (strL (fileC (bs s))), .bool (isFile (bs s))]) ∧ w = w' := by
  by_cases hpre : ∃ R, bs s = 102 :: R
  · obtain ⟨R, hR⟩ := hpre
    have hsR : (strL R).size ≤ 1000000 := by
      have h1 := bs_len s
      rw [hR] at h1
      rw [strL_size]; simp at h1; omega
    obtain ⟨y, hy⟩ : ∃ y, contOk (bs (strL R)) = y := ⟨_, rfl⟩
    have HY := hid hy
    have HSR := hid hsR
    rw [bs_strL] at hy
    have HF := hid (show isFile (bs s) = y by rw [hR, isFile_cons, hy]; simp)
    have HR := hid hR
    have HC := hid (show fileC (bs s) = if y then R else [] by
      cases y
      · exact fileC_no HF.out
      · rw [hR]; exact fileC_yes hy)
    clear hR hy hsR
    cases y
    · go_enter Tryz.func65, Tryz.ntmps65
      go_wp2_with (first | (go_at_call 85; refine (CutPrefix_yes_c s 102 R _ HR.out (by omega)).mono ?_; rintro e w' ⟨rfl, rfl⟩) | (go_at_call 80; refine (impl_ContentValid_c _ _ HSR.out).mono ?_; rw [HY.out]; rintro e w' ⟨rfl, rfl⟩))
      go_ret2
      exact ⟨by rw [HF.out, HC.out]; rfl, rfl⟩
    · go_enter Tryz.func65, Tryz.ntmps65
      go_wp2_with (first | (go_at_call 85; refine (CutPrefix_yes_c s 102 R _ HR.out (by omega)).mono ?_; rintro e w' ⟨rfl, rfl⟩) | (go_at_call 80; refine (impl_ContentValid_c _ _ HSR.out).mono ?_; rw [HY.out]; rintro e w' ⟨rfl, rfl⟩))
      go_ret2
      exact ⟨by rw [HF.out, HC.out]; rfl, rfl⟩
  · have HN := hid (show ∀ r, bs s ≠ 102 :: r from fun r e => hpre ⟨r, e⟩)
    have HF := hid (show isFile (bs s) = false by
      cases hb : bs s with
      | nil => rfl
      | cons c r =>
        rw [isFile_cons]
        have : c ≠ 102 := fun e => hpre ⟨r, by rw [hb, e]⟩
        simp [this])
    have HC := hid (fileC_no HF.out)
    clear hpre
    go_enter Tryz.func65, Tryz.ntmps65
    go_wp2_with (go_at_call 85; refine (CutPrefix_no_c s 102 _ HN.out (by omega)).mono ?_; rintro e w' ⟨rfl, rfl⟩)
    go_ret2
    exact ⟨by rw [HF.out, HC.out]; rfl, rfl⟩

theorem join_size : ∀ (ws : List ByteArray), ws.length ≤ 3 → (∀ x ∈ ws, wordOk (bs x) = true) → (Go.Lib.join (ws.map (·.data.toList)) [47]).length ≤ 40 := by
  intro ws h3 h
  have hb : ∀ x ∈ ws, x.data.toList.length ≤ 8 := fun x hx => (word_len (h x hx)).2
  cases ws with
  | nil => simp [Go.Lib.join_nil]
  | cons x r =>
    rw [List.map_cons, join_flat]
    have h1 := hb x (by simp)
    have h2 : ∀ r : List ByteArray, (∀ y ∈ r, y.data.toList.length ≤ 8) → ((r.map (·.data.toList)).flatMap (fun y => (47 : UInt8) :: y)).length ≤ 9 * r.length := by
      intro r
      induction r with
      | nil => intro _; simp
      | cons y q ih =>
        intro hq
        have h4 := ih (fun z hz => hq z (by simp [hz]))
        have h5 := hq y (by simp)
        rw [List.map_cons, List.flatMap_cons, List.length_append, List.length_cons, List.length_cons]
        omega
    have h3' := h2 r (fun y hy => hb y (by simp [hy]))
    rw [List.length_append]
    simp only [List.length_cons] at h3
    omega
theorem join_words {ws : List ByteArray} (h3 : ws.length ≤ 3) (h : ∀ x ∈ ws, wordOk (bs x) = true) : (⟨#[47]⟩ : ByteArray) ++ ⟨(Go.Lib.join (ws.map (·.data.toList)) [47]).toArray⟩ = strL (joinP (ws.map bs)) := by
  have e1 : (⟨#[47]⟩ : ByteArray) = strL [47] := rfl
  have e2 : ∀ l : List UInt8, (⟨l.toArray⟩ : ByteArray) = strL l := fun _ => rfl
  rw [e1, e2, strL_append]
  congr 1
  cases ws with
  | nil => rfl
  | cons x r =>
    rw [joinP_on (by simp) (by simpa using h3) (by simpa using h)]
    rw [List.map_cons, join_flat]
    simp [bs]

set_option maxHeartbeats 2000000 in
set_option maxRecDepth 100000 in
theorem impl_JoinPath_c (v : Value) (ws : List ByteArray) (w : World) (h : Strs w w.heap.size v ws) (hl : ws.length ≤ 1048576) :
    Calls Tryz.prog 41 #[v] w fun e w' => e = .returned (.string (strL (joinP (ws.map bs)))) ∧ Below w.heap.size w w' := by
  obtain ⟨n, hn⟩ : ∃ n, ws.length = n := ⟨_, rfl⟩
  obtain ⟨a, c, rfl, hnc, _, h3⟩ := h.strs hn
  rw [hn] at hl
  have HN := hid hn
  have H3 := hid h3
  clear hn h h3
  by_cases hn3 : 3 < n
  · have HO := hid (join_long (ws := ws) (by rw [HN.out]; exact hn3))
    have hd0 : decide (3 < (n : Int)) = true := by simp; omega
    go_enter Tryz.func41, Tryz.ntmps41
    go_wp2
    go_ret
    exact ⟨by rw [HO.out]; rfl, Below.refl _ _⟩
  have hd0 : decide (3 < (n : Int)) = false := by simp; omega
  go_enter Tryz.func41, Tryz.ntmps41
  go_wp2
  go_loop [4, 10] (fun _ i => ∃ (k : Nat), k ≤ n ∧ i = .int .i64 k ∧ Hid (∀ x ∈ ws.take k, wordOk (bs x) = true)) (fun _ i => n - (intOf i).toNat)
  case atStart => exact ⟨0, Nat.zero_le _, rfl, hid (by simp)⟩
  case round =>
    obtain ⟨k, hk, rfl, hall⟩ := hrel
    by_cases hlt : k < n
    · obtain ⟨b, o, t, rfl, hbl, hx, k0⟩ := H3.out k hlt
      obtain ⟨y, hy⟩ : ∃ y, wordOk (bs t) = y := ⟨_, rfl⟩
      have HY := hid hy
      have hkn : (k : Int) < n := by omega
      cases y
      · have HO := hid (join_bad hx.out hy)
        clear hy
        go_wp2_with (go_at_call 63; refine (impl_WordValid_c t _).mono ?_; rw [HY.out]; rintro e w' ⟨rfl, rfl⟩)
        go_ret
        exact ⟨by rw [HO.out]; rfl, Below.refl _ _⟩
      · clear hy
        have HA2 := hid (show ∀ x ∈ ws.take (k + 1), wordOk (bs x) = true from fun x hx' => by
          rw [take_snoc' hx.out] at hx'
          rcases List.mem_append.1 hx' with h1 | h1
          · exact hall.out x h1
          · obtain rfl : x = t := by simpa using h1
            exact HY.out)
        go_wp2_with (go_at_call 63; refine (impl_WordValid_c t _).mono ?_; rw [HY.out]; rintro e w' ⟨rfl, rfl⟩)
        go_round
        case rel => exact ⟨k + 1, by omega, by go_num, HA2⟩
        case measure => simp [intOf]; omega
    · have HA := hid (show ∀ x ∈ ws, wordOk (bs x) = true by have := hall.out; rwa [take_all HN.out (by omega)] at this)
      have h3' : ws.length ≤ 3 := by have := HN.out; omega
      have HJ := hid (join_words h3' HA.out)
      have HZ := hid (join_size ws h3' HA.out)
      have hlt' : ¬ ((k : Int) < n) := by omega
      have e1 : (⟨#[47]⟩ : ByteArray).size = 1 := rfl
      have hq : (⟨#[47]⟩ : ByteArray).size + (⟨(Go.Lib.join (ws.map (·.data.toList)) [47]).toArray⟩ : ByteArray).size ≤ 9223372036854775807 := by
        have : (⟨(Go.Lib.join (ws.map (·.data.toList)) [47]).toArray⟩ : ByteArray).size = (Go.Lib.join (ws.map (·.data.toList)) [47]).length := by simp [ByteArray.size]
        have := HZ.out
        omega
      have HCJ := hid (strings_Join_c a n c ws ⟨#[47]⟩ _ HN.out (fun j hj => by obtain ⟨b, o, t, e, hb, hx, hk0⟩ := H3.out j hj; exact ⟨b, o, t, e, hb, hx.out, hk0⟩) (by omega) hnc (by have := HZ.out; show (Go.Lib.join (ws.map (·.data.toList)) [47]).length ≤ _; omega))
      clear hall hlt hk h3'
      go_wp2_with (go_at_call 91; refine (HCJ.out).mono ?_; rintro e w' ⟨rfl, b1⟩)
      go_ret
      exact ⟨congrArg (fun x => Ending.returned (Value.string x)) HJ.out, b1⟩

end Go.Proofs.YtachfmlfmpaddaaGreatDoor

/- Walks: the reference's entries of which one is dropped. -/
namespace Go.Proofs.YtachfmlfmpaddaaGreatDoor
open Go.RowKit

theorem drop_succ {xs : List Ent} {nm : ByteArray} {k : Nat} {x : Ent} (h : xs[k]? = some x) : dropE (xs.take (k + 1)) nm = dropE (xs.take k) nm ++ (if x.name = nm then [] else [x]) := by
  unfold dropE
  rw [take_snoc' h, List.filter_append]
  by_cases hx : x.name = nm <;> simp [hx]
set_option maxHeartbeats 2000000 in
set_option maxRecDepth 100000 in
theorem spec_DropEntry_c (v : Value) (xs : List Ent) (nm : ByteArray) (w : World) (h : Ents w w.heap.size v xs) (hx0 : ∀ x ∈ xs, x.name.size ≤ 1048576) (hl0 : xs.length ≤ 1048570) :
    Calls Tryz.prog 202 #[v, .string nm] w fun en w' => ∃ v', en = .returned (.tuple #[v', .bool (dropEnt xs nm).2]) ∧ OwnE w' w.heap.size v' (dropEnt xs nm).1 ∧ Below w.heap.size w w' := by
  obtain ⟨n, hn⟩ : ∃ n, xs.length = n := ⟨_, rfl⟩
  obtain ⟨a, c, rfl, hnc, hc63, h3⟩ := h.ents hn
  have HN := hid hn
  have HX := hid hx0
  have HL := hid (show xs.length ≤ 1048576 by omega)
  rw [hn] at hl0
  have HH := hid h
  have hal : Below w.heap.size w (w.alloc (.cells #[] 81)) := (Below.refl _ _).alloc (Nat.le_refl _) _
  have hown0 : OwnE (w.alloc (.cells #[] 81)) w.heap.size (.slice (some ⟨w.heap.size, 0, none⟩) 0 0) [] := Own.made _ (Nat.le_refl _)
  clear h hx0 hn
  cases hok : entsOk xs
  · have HO := hid (show dropEnt xs nm = ([], false) by unfold dropEnt; rw [hok]; rfl)
    have HK := hid hok
    have hn0 : 0 < n := by
      rcases Nat.eq_zero_or_pos n with h0 | h0
      · have := HN.out
        rw [h0] at this
        rw [List.eq_nil_of_length_eq_zero this] at hok; cases hok
      · exact h0
    have hd0 : decide ((0 : Int) < (n : Int)) = true := by simp; omega
    have hd1 : decide (0 < n) = true := by simp; omega
    have HOWN := hid hown0
    clear hok h3 hown0
    go_enter Tryz.func202, Tryz.ntmps202
    go_wp2
    go_loopw [6, 7] (fun out i wr => out = .slice (some ⟨w.heap.size, 0, none⟩) 0 0 ∧ i = .int .i64 (0 : Nat) ∧ wr = w.alloc (.cells #[] 81)) (fun _ _ _ => 0)
    case atStart => exact ⟨rfl, rfl, rfl⟩
    case round =>
      obtain ⟨rfl, rfl, rfl⟩ := hrel
      go_wp2_with fail
      refine (spec_EntriesValid_c _ xs _ _ (HH.out.below hal (Nat.le_refl _)) HX.out HL.out).mono ?_
      rw [HK.out]
      rintro e' w1 ⟨rfl, z, rfl⟩
      go_wp2_with fail
      refine (spec_EntriesValid_c _ xs _ _ ((HH.out.below hal (Nat.le_refl _)).drewN z) HX.out HL.out).mono ?_
      rw [HK.out]
      rintro e' w2 ⟨rfl, z2, rfl⟩
      go_wp2
      go_ret2
      exact ⟨_, by rw [HO.out]; rfl, by rw [HO.out]; exact HOWN.out.drewN (z + z2), bl_drewN hal (z + z2)⟩
  have HO := hid (show dropEnt xs nm = (dropE xs nm, decide ((dropE xs nm).length < xs.length)) by unfold dropEnt; rw [hok]; rfl)
  have HK := hid hok
  have HOWN := hid hown0
  clear hok hown0
  go_enter Tryz.func202, Tryz.ntmps202
  go_wp2
  go_loopw [6, 7] (fun out i wr => ∃ (k : Nat) (acc : List Ent), k ≤ n ∧ i = .int .i64 k ∧ OwnE wr w.heap.size out acc ∧ Hid (acc = dropE (xs.take k) nm) ∧ acc.length ≤ k ∧ Below w.heap.size w wr) (fun _ i _ => n - (intOf i).toNat)
  case atStart => exact ⟨0, [], Nat.zero_le _, rfl, HOWN.out, rfl, Nat.zero_le _, hal⟩
  case round =>
    obtain ⟨k, acc, hk, rfl, hown, hacc, hlen, hb⟩ := hrel
    have hB := hb.size
    clear hal
    by_cases hlt : k < n
    · obtain ⟨b, o, t, r, rfl, hbl, hx, k0, k1⟩ := h3 k hlt
      have hd0 : decide ((k : Int) < (n : Int)) = true := by simp; omega
      have hd1 : decide (k < n) = true := by simp; omega
      have j0 := (hb.cell (p := ⟨b, o + k * 2, none⟩) hbl).trans k0
      have j1 := (hb.cell (p := ⟨b, o + k * 2 + 1, none⟩) hbl).trans k1
      have hs := str_eqE (u := t) (t := nm)
      have HF := hid (drop_succ (nm := nm) hx.out)
      have hkn' : (k : Int) < n := by omega
      clear h3 k0 k1
      go_wp2_with fail
      refine (spec_EntriesValid_c _ xs _ _ (HH.out.below hb (Nat.le_refl _)) HX.out HL.out).mono ?_
      rw [HK.out]
      rintro e' w1 ⟨rfl, z, rfl⟩
      have hb1 := bl_drewN hb z
      have hown1 := hown.drewN z
      by_cases hte : t = nm
      · have hd2 : (t.toList == nm.toList) = true := by rw [hs]; exact decide_eq_true hte
        have HF2 := hid (HF.out.trans (by rw [if_pos hte, List.append_nil]))
        clear hs hte hown
        go_wp2
        go_roundw
        case rel => exact ⟨k + 1, acc, by omega, by go_num, hown1, hid (by rw [HF2.out]; exact hacc.out), by omega, hb1⟩
        case measure => simp [intOf]; omega
      · have hd2 : (t.toList == nm.toList) = false := by rw [hs]; exact decide_eq_false hte
        have HF2 := hid (HF.out.trans (congrArg (dropE (xs.take k) nm ++ ·) (if_neg hte)))
        obtain ⟨W2, hW2⟩ : ∃ W2, W2 = wr.drewN z := ⟨_, rfl⟩
        have l0 : W2.cell? ⟨b, o + k * 2, none⟩ = some (.string t) := by rw [hW2]; exact j0
        have l1 : W2.cell? ⟨b, o + k * 2 + 1, none⟩ = some (.int .i64 r) := by rw [hW2]; exact j1
        rw [← hW2] at hb1 hown1 ⊢
        clear hs hte hown j0 j1 hW2 hb
        have hB2 := hb1.size
        go_wp2_with (at_builtin; refine push_ent (w0 := w) rfl _ _ rfl w.heap.size w.heap.size _ acc ⟨t, r⟩ hown1 hb1 hB2 (Nat.le_refl _) rfl rfl (by omega) ?_; intro v' w' hown' hb' hB' hg')
        go_roundw
        case rel => exact ⟨k + 1, acc ++ [⟨t, r⟩], by omega, by go_num, hown', hid (by rw [HF2.out, ← hacc.out]), by simp; omega, hb'⟩
        case measure => simp [intOf]; omega
    · have HA := hid (show acc = dropE xs nm by rw [hacc.out, take_all HN.out (show n ≤ k by omega)])
      have hd0 : decide ((k : Int) < (n : Int)) = false := by simp; omega
      have hd1 : decide (k < n) = false := by simp; omega
      obtain ⟨m, hm⟩ : ∃ m, acc.length = m := ⟨_, rfl⟩
      have HM := hid hm
      have HDM := hid (show decide ((dropE xs nm).length < xs.length) = decide ((m : Int) < (n : Int)) by rw [← HA.out, hm, HN.out]; simp)
      obtain ⟨a0, c0, rfl, _, _, _⟩ := (Rd.of_own hown).ents hm
      clear h3 hm
      go_wp2_with fail
      refine (spec_EntriesValid_c _ xs _ _ (HH.out.below hb (Nat.le_refl _)) HX.out HL.out).mono ?_
      rw [HK.out]
      rintro e' w1 ⟨rfl, z, rfl⟩
      have hb1 := bl_drewN hb z
      have hown1 := hown.drewN z
      go_wp2
      go_ret2
      exact ⟨.slice a0 m c0, by rw [HO.out, HDM.out]; simp, by rw [HO.out]; rw [HA.out] at hown1; exact hown1, hb1⟩

end Go.Proofs.YtachfmlfmpaddaaGreatDoor

/- What the laws on wanted, sent and taken texts, on named and missing prints and on what is reached say, in plain Lean. No program in sight. -/
namespace Go.Proofs.YtachfmlfmpaddaaGreatDoor
open Go.RowKit

/-! ### FnTakeTexts -/
/-! ### FnMissingPrints -/
/-! ### FnNameCounts -/
/-! ### FnTopPrints, FnLostPrints -/
/-- No folder leads to itself. -/
def Acy (l : List Pc) : Prop := ∃ rank : Int → Nat, ∀ x ∈ l, ∀ y ∈ prs x, hasP l y = true → rank y < rank x.print
theorem Good.acy {l : List Pc} (h : Good l) : Acy l := by
  obtain ⟨hs, rank, hr⟩ := h
  exact ⟨rank, fun x hx y hy _ => (hr x.print x.text ((getP_iff hs).2 hx) y hy).2⟩
/-! ### Drawn stores that are turned -/
theorem nmd_prs (x : Pc) : prs x = nmd x.text := rfl
def TURNED : ByteArray := ⟨#[116, 117, 114, 110, 101, 100]⟩
theorem nmd_turned : nmd TURNED = [] := by
  unfold nmd entsOf
  rw [readFolder_no (fun es h he => by rw [folder_on h] at he; have := congrArg List.head? he; simp [TURNED, bs] at this)]
  rfl
/-- A store that was drawn: not empty, small, and no valid part of it has a folder that leads to itself. -/
def DrawnH (l : List Pc) : Prop := l.length ≤ 41 ∧ (∀ x ∈ l, x.text.size ≤ 60) ∧ ∀ l' : List Pc, (∀ x ∈ l', x ∈ l) → storeOk l' = true → Acy l'
def Drawn (l : List Pc) : Prop := l ≠ [] ∧ DrawnH l
theorem acy_sub {l l' : List Pc} (h : Acy l) (hs : ∀ x ∈ l', x ∈ l) : Acy l' := by
  obtain ⟨rank, hr⟩ := h
  refine ⟨rank, fun x hx y hy hp => hr x (hs x hx) y hy ?_⟩
  obtain ⟨u, hu, rfl⟩ := hasP_iff.1 hp
  exact has_mem (hs u hu)
theorem DrawnH.acy {l : List Pc} (h : DrawnH l) (hs : storeOk l = true) : Acy l := h.2.2 l (fun _ hx => hx) hs
theorem Good.drawn {l : List Pc} (h : Good l) (h0 : l ≠ []) : Drawn l := ⟨h0, by have := (st_in h.1).1; omega, fun x hx => st_text h.1 hx, fun l' hl _ => acy_sub h.acy hl⟩
theorem drawn_print {l : List Pc} (h : Good l) (h0 : l ≠ []) {j : Nat} {x : Pc} (hx : l[j]? = some x) (r : Int) : Drawn (l.set j ⟨r, x.text⟩) := by
  have hm := List.mem_of_getElem? hx
  refine ⟨by simpa using h0, by have := (st_in h.1).1; simp; omega, fun y hy => ?_, fun l' hl hs => acy_sub h.acy (fun y hy => ?_)⟩
  · rcases List.mem_or_eq_of_mem_set hy with h1 | rfl
    · exact st_text h.1 h1
    · have := st_text h.1 hm; exact this
  · rcases List.mem_or_eq_of_mem_set (hl y hy) with h1 | rfl
    · exact h1
    · have h1 := (pcOk_iff.1 (st_all hs hy)).2
      have h2 := (pcOk_iff.1 (st_all h.1 hm)).2
      simp only at h1
      have e : (⟨r, x.text⟩ : Pc) = x := by
        obtain ⟨p, t⟩ := x
        simp only at h1 h2 ⊢
        rw [h1, h2]
      rw [e]; exact hm
theorem drawn_twice {l : List Pc} (h : Good l) {x : Pc} (hx : l[0]? = some x) : Drawn (l ++ [x]) := by
  have hm := List.mem_of_getElem? hx
  have hsub : ∀ y ∈ l ++ [x], y ∈ l := fun y hy => by
    rcases List.mem_append.1 hy with h1 | h1
    · exact h1
    · simp at h1; subst h1; exact hm
  exact ⟨by simp, by have := (st_in h.1).1; simp; omega, fun y hy => st_text h.1 (hsub y hy), fun l' hl _ => acy_sub h.acy (fun y hy => hsub y (hl y hy))⟩
theorem drawn_text {l : List Pc} (h : Good l) (h0 : l ≠ []) {j : Nat} {x : Pc} (hx : l[j]? = some x) : Drawn (l.set j ⟨x.print, TURNED⟩) := by
  have hm := List.mem_of_getElem? hx
  refine ⟨by simpa using h0, by have := (st_in h.1).1; simp; omega, fun y hy => ?_, fun l' hl hs => ?_⟩
  · rcases List.mem_or_eq_of_mem_set hy with h1 | rfl
    · exact st_text h.1 h1
    · simp [TURNED, ByteArray.size]
  · obtain ⟨rank, hr⟩ := h.acy
    refine ⟨rank, fun y hy z hz hp => ?_⟩
    have hpl : hasP l z = true := by
      obtain ⟨u, hu, rfl⟩ := hasP_iff.1 hp
      rcases List.mem_or_eq_of_mem_set (hl u hu) with h1 | rfl
      · exact has_mem h1
      · have := has_mem hm; exact this
    rcases List.mem_or_eq_of_mem_set (hl y hy) with h1 | rfl
    · exact hr y h1 z hz hpl
    · rw [nmd_prs] at hz; simp only [nmd_turned] at hz; simp at hz
theorem drawn_sub {l l' : List Pc} (h : DrawnH l) (hn : l'.length ≤ l.length) (hl : ∀ x ∈ l', x ∈ l) : DrawnH l' := ⟨by have := h.1; omega, fun x hx => h.2.1 x (hl x hx), fun m hm hs => h.2.2 m (fun x hx => hl x (hm x hx)) hs⟩

end Go.Proofs.YtachfmlfmpaddaaGreatDoor

/- Walks: what roots reach, the program's way. -/
namespace Go.Proofs.YtachfmlfmpaddaaGreatDoor
open Go.RowKit

/-- From a world to another one all blocks stay but some. -/
structure Frm (S : Nat → Prop) (w w' : World) : Prop where
  os : w'.os = w.os
  tape : w'.tape = w.tape
  output : w'.output = w.output
  size : w.heap.size ≤ w'.heap.size
  block : ∀ k, k < w.heap.size → ¬ S k → w'.heap[k]? = w.heap[k]?
theorem Frm.refl (S : Nat → Prop) (w : World) : Frm S w w := ⟨rfl, rfl, rfl, Nat.le_refl _, fun _ _ _ => rfl⟩
theorem Frm.below {S : Nat → Prop} {w w' : World} {B : Nat} (h : Frm S w w') (hS : ∀ k, S k → B ≤ k) (hB : B ≤ w.heap.size) : Below B w w' :=
  ⟨h.os, h.tape, h.output, h.size, fun k hk => h.block k (by omega) (fun e => by have := hS k e; omega)⟩
theorem Frm.of_below {S : Nat → Prop} {w w' : World} (h : Below w.heap.size w w') : Frm S w w' := ⟨h.os, h.tape, h.output, h.size, fun k hk _ => h.block k hk⟩
theorem Frm.of_grown {S : Nat → Prop} {w w' : World} {row : Option Nat} (h : w.grownBy w' row) (hr : ∀ g, row = some g → S g) : Frm S w w' :=
  ⟨h.os, h.tape, h.output, h.size, fun k hk hn => h.block k hk (fun e => hn (hr k e.symm))⟩
theorem Frm.set {S : Nat → Prop} {w : World} {g i : Nat} (hS : S g) (v : Value) : Frm S w (w.setCell ⟨g, i, none⟩ v) := by
  have h : Below g w (w.setCell ⟨g, i, none⟩ v) := (Below.refl g w).setCell (Nat.le_refl _) v
  exact ⟨h.os, h.tape, h.output, h.size, fun k _ hn => Below.heap_setCell _ _ _ _ (fun e => hn (by rw [e]; exact hS))⟩
theorem Frm.trans {S S' : Nat → Prop} {a b c : World} (h : Frm S a b) (k : Frm S' b c) (hs : ∀ x, x < a.heap.size → S' x → S x) : Frm S a c :=
  ⟨k.os.trans h.os, k.tape.trans h.tape, k.output.trans h.output, Nat.le_trans h.size k.size, fun x hx hn => (k.block x (Nat.lt_of_lt_of_le hx h.size) (fun e => hn (hs x hx e))).trans (h.block x hx hn)⟩

theorem Frm.mono {S S' : Nat → Prop} {w w' : World} (h : Frm S w w') (hs : ∀ k, S k → S' k) : Frm S' w w' := ⟨h.os, h.tape, h.output, h.size, fun k hk hn => h.block k hk (fun e => hn (hs k e))⟩
theorem Own.frm {α : Type} {enc : α → List Value} {e k B : Nat} {S : Nat → Prop} {w w' : World} {v : Value} {xs : List α} (h : Own enc e k w B v xs) (hf : Frm S w w') (hne : ∀ g, v.ownBlock = some g → ¬ S g) : Own enc e k w' B v xs := by
  refine ⟨h.1, ?_⟩
  rcases h.2 with h2 | ⟨g, cap, cur, hv, hg, hh, r⟩
  · exact .inl h2
  · exact .inr ⟨g, cap, cur, hv, hg, (hf.block g (lt_of_block hh) (hne g (by rw [hv]; rfl))).trans hh, r⟩
theorem set_flatB (xs : List Bool) (i : Nat) (z : Bool) : (xs.flatMap encB).set i (.bool z) = (xs.set i z).flatMap encB := by
  unfold encB
  rw [← List.map_eq_flatMap, ← List.map_eq_flatMap, List.map_set]

abbrev nats (l : List Nat) : List Int := l.map fun (i : Nat) => (i : Int)

/-- The variables that the closure shares with its maker: the store, the marks, what is to be looked at. -/
structure RVars (w : World) (g0 g1 g2 g3 : Nat) (a : Option Addr) (n c : Nat) (A : List Bool) (tv : Value) (todo : List Nat) : Prop where
  vs : w.heap[g0]? = some (.cells #[.slice a n c] 23 (0, 0))
  vr : w.heap[g2]? = some (.cells #[.slice (some ⟨g1, 0, none⟩) n n] 102 (0, 0))
  row : OwnB w g1 (.slice (some ⟨g1, 0, none⟩) n n) A
  vt : w.heap[g3]? = some (.cells #[tv] 44 (0, 0))
  own : OwnI w (g3 + 1) tv (nats todo)
  lt : g0 < g1 ∧ g1 < g2 ∧ g2 < g3

theorem RVars.on {w w' : World} {g0 g1 g2 g3 : Nat} {a : Option Addr} {n c : Nat} {A : List Bool} {tv : Value} {todo : List Nat} (h : RVars w g0 g1 g2 g3 a n c A tv todo) (hb : Below w.heap.size w w') : RVars w' g0 g1 g2 g3 a n c A tv todo :=
  ⟨(hb.block _ (lt_of_block h.vs)).trans h.vs, (hb.block _ (lt_of_block h.vr)).trans h.vr, h.row.on hb, (hb.block _ (lt_of_block h.vt)).trans h.vt, h.own.on hb, h.lt⟩

end Go.Proofs.YtachfmlfmpaddaaGreatDoor
