/- Walks: the laws on drawn proofs. -/
import Derived.Test.YtachfmlfmpaddaaGreatDoorMg30
import Derived.Test.YtachfmlfmpaddaaGreatDoorMg33
import Derived.Test.YtachfmlfmpaddaaGreatDoorMg36
import Derived.Test.YtachfmlfmpaddaaGreatDoorMg38
import Derived.Test.YtachfmlfmpaddaaGreatDoorMg46
import Derived.Test.YtachfmlfmpaddaaGreatDoorMlLawF
namespace Go.Proofs.YtachfmlfmpaddaaGreatDoor
open Go.RowKit

section
variable {ops : Array Oper} {rest : List Oper} {o : Oper} {a : Act} {Q : Exit → Act → World → Prop} {w : World}
theorem wpList_wantedP {P : Program} (hg : Region.wanted o (yielded ops a.tmps) = true) (h : o.wp P a w (wpList P ops Q rest) Q) : wpList P ops Q (o :: rest) a w := by
  unfold wpList
  rw [if_pos hg]
  exact .inl h
theorem catG_str (hg : Region.wanted o (yielded ops a.tmps) = true) (s x : Operand) (ho : o.op = .call { callee := .builtin .append, args := #[s, x], argTypes := #[28, 28] }) (B : Nat) (v sv : Value) (acc ys : List ByteArray)
    (hown : OwnS w B v acc) (hr : Strs w w.heap.size sv ys) (hB : B ≤ w.heap.size) (hs : a.eval s = v) (hx : a.eval x = sv) (hn : acc.length + ys.length < 1099511627776)
    (h : ∀ v' w', OwnS w' B v' (acc ++ ys) → Below B w w' → (∀ g, v'.ownBlock = some g → v.ownBlock = some g ∨ w.heap.size ≤ g) → wpList Tryz.prog ops Q rest (a.put o.dst v') w') :
    wpList Tryz.prog ops Q (o :: rest) a w := by
  obtain ⟨i0, hi, hz0, hz1, hz2⟩ := info_parts info_string
  refine wpList_wantedP hg (wp_cat (enc := encS) w s x 28 ho B 9 i0 _ 1 16 Tryz.underlying28 hi hz0 hz1 hz2 rfl (by decide) v sv acc ys hs hx hown _ hr (by simp [encS, Value.oneCell']) hn (by decide) hB ?_)
  intro v' w' h1 h2 h3
  exact h v' w' h1 ((Below.refl _ _).grown h2 hB (fun g hg => (hown.lt g hg).1)) (fun g hg => (h3 g hg).imp id (fun e => by omega))
theorem pushG_str (hg : Region.wanted o (yielded ops a.tmps) = true) (s x : Operand) (ho : o.op = .call { callee := .builtin .append, args := #[s, x], argTypes := #[28, 28] }) (B : Nat) (v : Value) (acc : List ByteArray) (y : ByteArray)
    (hown : OwnS w B v acc) (hB : B ≤ w.heap.size) (hs : a.eval s = v) (hx : a.eval x = .slice (some ⟨w.heap.size, 0, none⟩) 1 1) (hn : acc.length < 1099511627775)
    (h : ∀ v' w', OwnS w' B v' (acc ++ [y]) → Below B w w' → (∀ g, v'.ownBlock = some g → v.ownBlock = some g ∨ w.heap.size ≤ g) → wpList Tryz.prog ops Q rest (a.put o.dst v') w') :
    wpList Tryz.prog ops Q (o :: rest) a (w.alloc (.cells #[.string y] 9)) := by
  have hb := (Below.refl B w).alloc hB (.cells #[.string y] 9)
  refine catG_str hg s x ho B v _ acc [y] (hown.alloc _) (lit_rdS (heap_alloc_new w _)) (by simp; omega) hs hx (by simp; omega) ?_
  intro v' w' h1 h2 h3
  exact h v' w' h1 (hb.trans h2) (fun g hg => (h3 g hg).imp id (fun e => by simp at e; omega))
end


set_option maxHeartbeats 2000000 in
set_option maxRecDepth 100000 in
theorem laws_FnProofRight_c (v : Value) (l : List Int) (w : World) (h : Rd encU 1 w w.heap.size v l) (hl : ∀ x ∈ l, 0 ≤ x ∧ x ≤ 255) (hg : Glob w) (hm : Mx w) :
    Calls Tryz.prog 4 #[v] w fun e w' => e = .returned (.bool true) ∧ Below w.heap.size w w' := by
  obtain ⟨n0, hn0⟩ : ∃ n, l.length = n := ⟨_, rfl⟩
  obtain ⟨a, c, rfl, _, _, _⟩ := Rd.openN h (fun _ => rfl) hn0
  have HG0 := hid hg
  have HM0 := hid hm
  clear hg hm
  by_cases hbig : 1048576 < n0
  · go_enter Tryz.func4, Tryz.ntmps4
    go_wp2
    go_ret
    exact ⟨rfl, Below.refl _ _⟩
  go_enter Tryz.func4, Tryz.ntmps4
  go_wp2_with fail
  refine (spec_DrawProofRight_c _ l w h hl).mono ?_
  rintro e w1 ⟨root, path, tv, proof, rfl, o1, hts, htl, hps, b1⟩
  obtain ⟨n, hn⟩ : ∃ n, proof.length = n := ⟨_, rfl⟩
  have HN := hid hn
  obtain ⟨ta, tc, rfl, _, _, _⟩ := (Rd.of_own o1).strs hn
  have HT : Hid (∀ wx, Below w1.heap.size w1 wx → Strs wx wx.heap.size (.slice ta n tc) proof) := hid fun wx hx => (Rd.of_own o1).on hx
  have HTS := hid hts
  have HTS2 := hid (show ∀ t ∈ proof, t.size ≤ 1048576 from fun t ht => by have := hts t ht; omega)
  have hn6 : n ≤ 6 := by omega
  have HG : Hid (∀ wx, Below w1.heap.size w1 wx → Glob wx) := hid fun wx hx => (HG0.out.on b1).on hx
  have HM : Hid (∀ wx, Below w1.heap.size w1 wx → Mx wx) := hid fun wx hx => (HM0.out.on b1).on hx
  have r0 : Below w1.heap.size w1 w1 := Below.refl _ _
  clear h hl hn0 o1 hn hts htl
  obtain ⟨ok, hR⟩ : ∃ R, proofRight root (bs path) proof = R := ⟨_, rfl⟩
  have HR := hid hR
  clear hR
  go_wp2_with fail
  refine (impl_ProofRight_c root path _ proof _ _ HR.out (HT.out _ r0) HTS2.out (by omega) (HG.out _ r0) (HM.out _ r0)).mono ?_
  rintro e w2 ⟨rfl, b2⟩
  go_wp2_with fail
  refine (spec_ProofRight_c root path _ proof _ _ HR.out (HT.out _ b2) HTS.out (by omega)).mono ?_
  rintro e w3 ⟨rfl, b3⟩
  have d3 := bl_then b2 b3
  have d13 := bl_then b1 d3
  cases ok
  · go_wp2_with (go_at_call 21; refine (laws_alive_c _).mono ?_; rintro e w99 ⟨rfl, rfl⟩)
    go_ret
    exact ⟨rfl, d13⟩
  · have hrt := notRight_root HR.out
    have hw1 : IntKind.i64.wrap (root + 1) = root + 1 := IntWalk.i64_in _ (by omega)
    have HP2 := hid (show proofRight (root + 1) (bs path) proof = false from right_other HR.out (by omega))
    have HP3 := hid (show proofRight root (bs path) ([] ++ proof ++ [⟨#[100]⟩]) = false from right_more _ HR.out)
    have HP4 := hid (right_abs HR.out)
    have HTS3 := hid (show ∀ t ∈ [] ++ proof ++ [(⟨#[100]⟩ : ByteArray)], t.size ≤ 1048576 from fun t ht => by
      simp only [List.nil_append, List.mem_append, List.mem_singleton] at ht
      rcases ht with h | h
      · exact HTS2.out t h
      · rw [h]; decide)
    clear hrt
    go_wp2_with fail
    refine (impl_ProofRight_c (root + 1) path _ proof _ _ HP2.out (HT.out _ d3) HTS2.out (by omega) (HG.out _ d3) (HM.out _ d3)).mono ?_
    rintro e w4 ⟨rfl, b4⟩
    have d4 := bl_then d3 b4
    have T4 := HT.out _ d4
    have o4 : OwnS (w4.alloc (.cells #[] 9)) w4.heap.size (.slice (some ⟨w4.heap.size, 0, none⟩) 0 0) [] := Own.made _ (Nat.le_refl _)
    have b40 : Below w4.heap.size w4 (w4.alloc (.cells #[] 9)) := (Below.refl _ _).alloc (Nat.le_refl _) _
    have T40 := T4.on b40
    go_wp2_with (first | (at_builtin; refine catG_str (by rfl) _ _ rfl w4.heap.size _ _ [] proof o4 T40 b40.size rfl rfl (by have := HN.out; simp; omega) ?_; intro v5 w5 o5 b5 g5; have B45 := b40.trans b5; clear b5 g5) | (at_builtin; refine pushG_str (by rfl) _ _ rfl w4.heap.size _ ([] ++ proof) ⟨#[100]⟩ o5 B45.size rfl rfl (by have := HN.out; simp; omega) ?_; intro v6 w6 o6 b6 g6; have B46 := B45.trans b6; clear b6 g6) | (go_at_call 23; refine (impl_ProofRight_c root path _ ([] ++ proof ++ [⟨#[100]⟩]) _ _ HP3.out (Rd.of_own o6) HTS3.out (by omega) (HG.out _ (bl_then d4 B46)) (HM.out _ (bl_then d4 B46))).mono ?_; rintro e w7 ⟨rfl, b7⟩; have d7 := bl_then (bl_then d4 B46) b7) | (go_at_call 25; refine (impl_AbsenceRight_c root path _ proof _ _ HP4.out (HT.out _ d7) HTS2.out (by omega) (HG.out _ d7) (HM.out _ d7)).mono ?_; rintro e w8 ⟨rfl, b8⟩; have d8 := bl_then b1 (bl_then d7 b8)))
    go_ret
    exact ⟨rfl, d8⟩

end Go.Proofs.YtachfmlfmpaddaaGreatDoor
