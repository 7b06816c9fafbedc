/- Walks: the law on proved contents. -/
import Derived.Test.YtachfmlfmpaddaaGreatDoorMg3
import Derived.Test.YtachfmlfmpaddaaGreatDoorMg4
import Derived.Test.YtachfmlfmpaddaaGreatDoorMg7
import Derived.Test.YtachfmlfmpaddaaGreatDoorMg9
import Derived.Test.YtachfmlfmpaddaaGreatDoorMg29
import Derived.Test.YtachfmlfmpaddaaGreatDoorMg30
import Derived.Test.YtachfmlfmpaddaaGreatDoorMg33
import Derived.Test.YtachfmlfmpaddaaGreatDoorMg34
import Derived.Test.YtachfmlfmpaddaaGreatDoorMg36
import Derived.Test.YtachfmlfmpaddaaGreatDoorMg38
import Derived.Test.YtachfmlfmpaddaaGreatDoorMg40
import Derived.Test.YtachfmlfmpaddaaGreatDoorMg41
import Derived.Test.YtachfmlfmpaddaaGreatDoorMg44
import Derived.Test.YtachfmlfmpaddaaGreatDoorMg46
namespace Go.Proofs.YtachfmlfmpaddaaGreatDoor
open Go.RowKit

theorem allV_keep {L : List (Value → World → Prop)} (h : ∀ f ∈ L, ∃ v, f = isV v) (i : Nat) (v : Value) (w w' : World) (hf : fact L i v w) : fact L i v w' := by
  unfold fact at *
  rw [List.getD_eq_getElem?_getD] at *
  cases hL : L[i]? with
  | none => simp only [Option.getD_none]
  | some f =>
    obtain ⟨x, rfl⟩ := h f (List.mem_of_getElem? hL)
    rw [hL] at hf
    exact hf
theorem fileC_len (l : List UInt8) : (fileC l).length ≤ l.length := by
  unfold fileC
  split
  · simp
  · simp

set_option maxHeartbeats 2000000 in
set_option maxRecDepth 100000 in
theorem laws_FnProofContent_c (v : Value) (l : List Int) (w : World) (h : Rd encU 1 w w.heap.size v l) (hl : ∀ x ∈ l, 0 ≤ x ∧ x ≤ 255) (hg : Glob w) (hm : Mx w) :
    Calls Tryz.prog 6 #[v] w fun e w' => e = .returned (.bool true) ∧ Below w.heap.size w w' := by
  obtain ⟨n0, hn0⟩ : ∃ n, l.length = n := ⟨_, rfl⟩
  obtain ⟨a, c, rfl, _, _, _⟩ := Rd.openN h (fun _ => rfl) hn0
  have HG0 := hid hg
  have HM0 := hid hm
  clear hg hm
  by_cases hbig : 1048576 < n0
  · go_enter Tryz.func6, Tryz.ntmps6
    go_wp2
    go_ret
    exact ⟨rfl, Below.refl _ _⟩
  go_enter Tryz.func6, Tryz.ntmps6
  go_wp2_with fail
  refine (spec_DrawProofContent_c _ l w h hl).mono ?_
  rintro e w1 ⟨root, path, tv, proof, rfl, o1, hts, htl, hps, b1⟩
  obtain ⟨n, hn⟩ : ∃ n, proof.length = n := ⟨_, rfl⟩
  have HN := hid hn
  obtain ⟨ta, tc, rfl, _, _, _⟩ := (Rd.of_own o1).strs hn
  have HT : Hid (∀ wx, Below w1.heap.size w1 wx → Strs wx wx.heap.size (.slice ta n tc) proof) := hid fun wx hx => (Rd.of_own o1).on hx
  have HTS := hid hts
  have HTS2 := hid (show ∀ t ∈ proof, t.size ≤ 1048576 from fun t ht => by have := hts t ht; omega)
  have hn6 : n ≤ 6 := by omega
  have HG : Hid (∀ wx, Below w1.heap.size w1 wx → Glob wx) := hid fun wx hx => (HG0.out.on b1).on hx
  have HM : Hid (∀ wx, Below w1.heap.size w1 wx → Mx wx) := hid fun wx hx => (HM0.out.on b1).on hx
  have r0 : Below w1.heap.size w1 w1 := Below.refl _ _
  clear h hl hn0 o1 hn hts htl
  obtain ⟨⟨C, ok⟩, hR⟩ : ∃ R, proofContent root (bs path) proof = R := ⟨_, rfl⟩
  have HR := hid hR
  go_wp2_with fail
  refine (impl_ProofContent_c root path _ proof _ (HT.out _ r0) HTS.out (by omega) (HG.out _ r0) (HM.out _ r0)).mono ?_
  rw [HR.out]
  rintro e w2 ⟨rfl, b2⟩
  go_wp2_with fail
  refine (spec_ProofContent_c root path _ proof _ (HT.out _ b2) HTS.out (by omega)).mono ?_
  rw [HR.out]
  rintro e w3 ⟨rfl, b3⟩
  have d3 := bl_then b2 b3
  have d13 := bl_then b1 d3
  cases ok
  · have hC0 : C = [] := by have := content_off (root := root) (path := bs path) (proof := proof) (by rw [hR]); rw [hR] at this; exact this
    subst hC0
    clear hR
    have hnil : (strL []).toList = [] := by rw [ByteArray.toList_eq]; rfl
    go_wp2_with (go_at_call 21; refine (laws_alive_c _).mono ?_; rintro e w99 ⟨rfl, rfl⟩)
    go_ret
    exact ⟨rfl, d13⟩
  · have hon := content_on (root := root) (path := bs path) (proof := proof) (by rw [hR])
    rw [hR] at hon
    have HPR := hid hon.1
    obtain ⟨ws, _, hlen, _⟩ := right_parts hon.1
    have hn1 : 1 ≤ n := by have := HN.out; omega
    obtain ⟨a', c', hv', htc, htc2, h3⟩ := (HT.out _ d3).strs HN.out
    simp only [Value.slice.injEq] at hv'
    obtain ⟨rfl, _, rfl⟩ := hv'
    obtain ⟨b, o, t, rfl, hbl3, hx, k3⟩ := h3 (n - 1) (by omega)
    have hgl : proof.getLastD ByteArray.empty = t := by
      have h1 := hx.out
      rw [List.getLastD_eq_getLast?, List.getLast?_eq_getElem?, HN.out, h1]; rfl
    have HFT := hid (show strL (fileText (bs (strL C))) = t by rw [bs_strL]; have := hon.2; simp only at this; rw [this, hgl, strL_bs])
    have HCS := hid (show (strL C).size ≤ 1000000 by
      have h1 := HTS.out t (List.mem_of_getElem? hx.out)
      have h2 : fileC (bs t) = C := by
        have h3 := congrArg Prod.fst hR
        unfold proofContent at h3
        rw [if_pos hon.1, hgl] at h3
        exact h3
      have h4 := fileC_len (bs t)
      rw [h2, bs_len] at h4
      rw [strL_size]; omega)
    have hw1 : IntKind.i64.wrap ((n : Int) - 1) = ((n - 1 : Nat) : Int) := by rw [IntWalk.i64_in _ (by omega)]; omega
    have hqn : ((n - 1 : Nat) : Int) < n := by omega
    obtain ⟨q, hq⟩ : ∃ q, n - 1 = q := ⟨_, rfl⟩
    rw [hq] at hw1 hqn k3
    clear hR hon hlen h3 hx hgl hq hn1
    go_wp2
    refine wp_region_inv3g rfl (by kernel_rfl) (by kernel_rfl) (by kernel_rfl) (by kernel_rfl) (by simp) (fun _ w' => Below w3.heap.size w3 w') (fun _ _ => True) (fact [isV (.int .i64 root), isV (.string path), isV (.slice (some ⟨b, o, none⟩) n tc), isV (.bool true), isV (.bool true), isV (.slice (some ⟨b, o, none⟩) n tc), isV (.slice (some ⟨b, o, none⟩) n tc), isV (.int .i64 n), isV (.int .i64 q), isV (.pointer (some ⟨b, o + q, none⟩)), isV (.string t), isV (.string (strL C)), isV (.string t), isV (.bool true), isV (.bool true), isV (.bool true)]) (Below.refl _ _).drew (fun i v w' w'' _ hf => allV_keep (by simp only [List.mem_cons, List.not_mem_nil, or_false, forall_eq_or_imp, forall_eq]; exact ⟨⟨_, rfl⟩, ⟨_, rfl⟩, ⟨_, rfl⟩, ⟨_, rfl⟩, ⟨_, rfl⟩, ⟨_, rfl⟩, ⟨_, rfl⟩, ⟨_, rfl⟩, ⟨_, rfl⟩, ⟨_, rfl⟩, ⟨_, rfl⟩, ⟨_, rfl⟩, ⟨_, rfl⟩, ⟨_, rfl⟩, ⟨_, rfl⟩, ⟨_, rfl⟩⟩) i v w' w'' hf) ?grd ?oo ?fin
    case grd =>
      intro i oo d bb hi hg v w' hf
      obtain ⟨hlt1, rfl⟩ := Array.getElem?_eq_some_iff.1 hi
      have hlt' : i < 16 := hlt1
      clear hi
      obtain rfl | rfl | rfl | rfl | rfl | rfl | rfl | rfl | rfl | rfl | rfl | rfl | rfl | rfl | rfl | rfl : i = 0 ∨ i = 1 ∨ i = 2 ∨ i = 3 ∨ i = 4 ∨ i = 5 ∨ i = 6 ∨ i = 7 ∨ i = 8 ∨ i = 9 ∨ i = 10 ∨ i = 11 ∨ i = 12 ∨ i = 13 ∨ i = 14 ∨ i = 15 := by omega
      all_goals first | (simp at hg; done) | (simp at hg; obtain ⟨rfl, rfl⟩ := hg; exact hf)
    case oo =>
      intro i oo hi qn a' wk hnn hj hb' hd
      obtain ⟨hlt1, rfl⟩ := Array.getElem?_eq_some_iff.1 hi
      have hlt' : i < 16 := hlt1
      clear hi
      obtain rfl | rfl | rfl | rfl | rfl | rfl | rfl | rfl | rfl | rfl | rfl | rfl | rfl | rfl | rfl | rfl : i = 0 ∨ i = 1 ∨ i = 2 ∨ i = 3 ∨ i = 4 ∨ i = 5 ∨ i = 6 ∨ i = 7 ∨ i = 8 ∨ i = 9 ∨ i = 10 ∨ i = 11 ∨ i = 12 ∨ i = 13 ∨ i = 14 ∨ i = 15 := by omega
      · have b3 : a'.eval (.tmp 3) = .int .i64 root := hb' 3 (by kernel_rfl); have c3 := ev_get b3
        exact iv_val (v := .int .i64 root) (by simp [execOp, b3]) ⟨_, rfl, hj, trivial, rfl⟩
      · have b4 : a'.eval (.tmp 4) = .string path := hb' 4 (by kernel_rfl); have c4 := ev_get b4
        exact iv_val (v := .string path) (by simp [execOp, b4]) ⟨_, rfl, hj, trivial, rfl⟩
      · have b5 : a'.eval (.tmp 5) = .slice (some ⟨b, o, none⟩) n tc := hb' 5 (by kernel_rfl); have c5 := ev_get b5
        exact iv_val (v := .slice (some ⟨b, o, none⟩) n tc) (by simp [execOp, b5]) ⟨_, rfl, hj, trivial, rfl⟩
      · have v0 : a'.eval (.tmp 48) = .int .i64 root := hd ⟨0, .data⟩ (by simp) rfl; have u0 := ev_get v0
        have v1 : a'.eval (.tmp 49) = .string path := hd ⟨1, .data⟩ (by simp) rfl; have u1 := ev_get v1
        have v2 : a'.eval (.tmp 50) = .slice (some ⟨b, o, none⟩) n tc := hd ⟨2, .data⟩ (by simp) rfl; have u2 := ev_get v2
        refine iv_enter (f := 23) (args := #[.int .i64 root, .string path, .slice (some ⟨b, o, none⟩) n tc]) (by simp [execOp, u0, u1, u2, go_sem]) ?_
        refine (impl_ProofRight_c root path _ proof _ _ HPR.out (HT.out _ (bl_then d3 hj)) HTS2.out (by omega) (HG.out _ (bl_then d3 hj)) (HM.out _ (bl_then d3 hj))).mono ?_
        rintro e9 w9 ⟨rfl, b9⟩
        exact ⟨_, rfl, _, rfl, bl_then hj b9, trivial, rfl⟩
      · have v3 : a'.eval (.tmp 51) = .bool true := hd ⟨3, .data⟩ (by simp) rfl; have u3 := ev_get v3
        exact iv_val (v := .bool true) (by simp [execOp, v3]) ⟨_, rfl, hj, trivial, rfl⟩
      · have b5 : a'.eval (.tmp 5) = .slice (some ⟨b, o, none⟩) n tc := hb' 5 (by kernel_rfl); have c5 := ev_get b5
        exact iv_val (v := .slice (some ⟨b, o, none⟩) n tc) (by simp [execOp, b5]) ⟨_, rfl, hj, trivial, rfl⟩
      · have b5 : a'.eval (.tmp 5) = .slice (some ⟨b, o, none⟩) n tc := hb' 5 (by kernel_rfl); have c5 := ev_get b5
        exact iv_val (v := .slice (some ⟨b, o, none⟩) n tc) (by simp [execOp, b5]) ⟨_, rfl, hj, trivial, rfl⟩
      · have v6 : a'.eval (.tmp 54) = .slice (some ⟨b, o, none⟩) n tc := hd ⟨6, .data⟩ (by simp) rfl; have u6 := ev_get v6
        exact iv_val (v := .int .i64 n) (by simp [execOp, u6, go_sem, Result.andThen]) ⟨_, rfl, hj, trivial, rfl⟩
      · have v7 : a'.eval (.tmp 55) = .int .i64 n := hd ⟨7, .data⟩ (by simp) rfl; have u7 := ev_get v7
        exact iv_val (v := .int .i64 q) (by simp [execOp, u7, hw1, go_sem]) ⟨_, rfl, hj, trivial, rfl⟩
      · have v5 : a'.eval (.tmp 53) = .slice (some ⟨b, o, none⟩) n tc := hd ⟨5, .data⟩ (by simp) rfl; have u5 := ev_get v5
        have v8 : a'.eval (.tmp 56) = .int .i64 q := hd ⟨8, .data⟩ (by simp) rfl; have u8 := ev_get v8
        exact iv_val (v := .pointer (some ⟨b, o + q, none⟩)) (by simp [execOp, u5, u8, hqn, go_sem, Result.andThen]) ⟨_, rfl, hj, trivial, rfl⟩
      · have v9 : a'.eval (.tmp 57) = .pointer (some ⟨b, o + q, none⟩) := hd ⟨9, .data⟩ (by simp) rfl; have u9 := ev_get v9
        have ck := (hj.cell (p := ⟨b, o + q, none⟩) hbl3).trans k3
        exact iv_val (v := .string t) (by simp [execOp, u9, ck, go_sem, Result.andThen]) ⟨_, rfl, hj, trivial, rfl⟩
      · have b6 : a'.eval (.tmp 6) = .string (strL C) := hb' 6 (by kernel_rfl); have c6 := ev_get b6
        exact iv_val (v := .string (strL C)) (by simp [execOp, b6]) ⟨_, rfl, hj, trivial, rfl⟩
      · have v11 : a'.eval (.tmp 59) = .string (strL C) := hd ⟨11, .data⟩ (by simp) rfl; have u11 := ev_get v11
        refine iv_enter (f := 33) (args := #[.string (strL C)]) (by simp [execOp, u11, go_sem]) ?_
        refine (impl_FileText_c _ _ HCS.out).mono ?_
        rw [HFT.out]
        rintro e9 w9 ⟨rfl, rfl⟩
        exact ⟨_, rfl, _, rfl, hj, trivial, rfl⟩
      · have v10 : a'.eval (.tmp 58) = .string t := hd ⟨10, .data⟩ (by simp) rfl; have u10 := ev_get v10
        have v12 : a'.eval (.tmp 60) = .string t := hd ⟨12, .data⟩ (by simp) rfl; have u12 := ev_get v12
        exact iv_val (v := .bool true) (by simp [execOp, u10, u12, go_sem]) ⟨_, rfl, hj, trivial, rfl⟩
      · have v4 : a'.eval (.tmp 52) = .bool true := hd ⟨4, .data⟩ (by simp) rfl; have u4 := ev_get v4
        have v13 : a'.eval (.tmp 61) = .bool true := hd ⟨13, .data⟩ (by simp) rfl; have u13 := ev_get v13
        exact iv_val (v := .bool true) (by simp [execOp, u4, u13, go_sem]) ⟨_, rfl, hj, trivial, rfl⟩
      · have v14 : a'.eval (.tmp 62) = .bool true := hd ⟨14, .data⟩ (by simp) rfl; have u14 := ev_get v14
        exact iv_val (v := .bool true) (by simp [execOp, v14]) ⟨_, rfl, hj, trivial, rfl⟩
    case fin =>
      intro tm w20 hj hF
      have q2 : tm.getD 2 undef = .bool true := hF 15 _ rfl
      have d20 := bl_then b1 (bl_then d3 hj)
      clear hF
      simp only [refillL, List.setIfInBounds_toArray, List.set_cons_succ, List.set_cons_zero]
      rw [q2]
      go_wp2
      go_ret
      exact ⟨rfl, d20⟩

end Go.Proofs.YtachfmlfmpaddaaGreatDoor
