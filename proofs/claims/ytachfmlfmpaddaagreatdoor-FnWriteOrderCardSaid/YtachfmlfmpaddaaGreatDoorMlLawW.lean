/- Walks: the law on the order of writes. -/
import Derived.Test.YtachfmlfmpaddaaGreatDoorMg32
import Derived.Test.YtachfmlfmpaddaaGreatDoorMg39
import Derived.Test.YtachfmlfmpaddaaGreatDoorMg42
namespace Go.Proofs.YtachfmlfmpaddaaGreatDoor
open Go.RowKit

def BC : ByteArray := ⟨#[47, 98, 47, 99]⟩
def OTH : ByteArray := ⟨#[111, 116, 104, 101, 114]⟩
theorem write_done2 {xs x : List Pc} {root p : Int} {path content : List UInt8} (h : writeAt xs root path content = (x, p, true)) : storeOk xs = true ∧ contOk content = true ∧ ∃ ws, pathParts path = some ws ∧ ws ≠ [] ∧ writeTo xs root (ws.map strL) content = some (x, p) := by
  cases hs : storeOk xs
  · rw [write_off (.inl hs)] at h; simp at h
  cases hp : pathParts path with
  | none => rw [write_off (.inr (.inl hp))] at h; simp at h
  | some ws =>
    by_cases h0 : ws = []
    · rw [write_off (.inr (.inr (.inl (by rw [hp, h0]))))] at h; simp at h
    · cases hc : contOk content
      · rw [write_off (.inr (.inr (.inr hc)))] at h; simp at h
      · rw [writeAt_eq hs hp h0 hc] at h
        cases hd : writeTo xs root (ws.map strL) content with
        | none => rw [hd] at h; simp at h
        | some sp =>
          obtain ⟨s', p'⟩ := sp
          rw [hd] at h
          simp only [Prod.mk.injEq, and_true] at h
          obtain ⟨rfl, rfl⟩ := h
          exact ⟨rfl, rfl, ws, rfl, h0, hd⟩
theorem order_done {s a a' b b' : List Pc} {root one two first second : Int} {p1 p2 k1 k2 : ByteArray} (hne : p1 ≠ p2) (h1 : writeAt s root (bs p1) (bs k1) = (a, one, true)) (h12 : writeAt a one (bs p2) (bs k2) = (a', two, true)) (h2 : writeAt s root (bs p2) (bs k2) = (b, first, true)) (h21 : writeAt b first (bs p1) (bs k1) = (b', second, true)) : second = two := by
  obtain ⟨hs, hc1, w1, hp1, _, e1⟩ := write_done2 h1
  obtain ⟨_, hc2, w2, hp2, _, e2⟩ := write_done2 h2
  obtain ⟨_, _, w2', hp2', _, e12⟩ := write_done2 h12
  obtain ⟨_, _, w1', hp1', _, e21⟩ := write_done2 h21
  rw [hp2] at hp2'
  rw [hp1] at hp1'
  obtain rfl := Option.some.inj hp2'
  obtain rfl := Option.some.inj hp1'
  refine (lw_order hs hc1 hc2 (fun e => hne ?_) e1 e12 e2 e21).symm
  have e' : w1 = w2 := by
    have h3 := congrArg (List.map bs) e
    simp only [List.map_map] at h3
    have h4 : ∀ ws : List (List UInt8), ws.map (bs ∘ strL) = ws := fun ws => (List.map_congr_left (g := id) (fun x _ => bs_strL x)).trans (List.map_id _)
    rw [h4, h4] at h3
    exact h3
  have h5 : bs p1 = bs p2 := by rw [← (pathParts_in hp1).2.2, ← (pathParts_in hp2).2.2, e']
  have := congrArg strL h5
  rwa [strL_bs, strL_bs] at this

set_option maxHeartbeats 2000000 in
set_option maxRecDepth 100000 in
theorem laws_FnWriteOrder_c (v : Value) (l : List Int) (w : World) (h : Rd encU 1 w w.heap.size v l) (hl : ∀ x ∈ l, 0 ≤ x ∧ x ≤ 255) (hg : Glob w) (hm : Mx w) :
    Calls Tryz.prog 16 #[v] w fun e w' => e = .returned (.bool true) ∧ Below w.heap.size w w' := by
  obtain ⟨n0, hn0⟩ : ∃ n, l.length = n := ⟨_, rfl⟩
  obtain ⟨a, c, rfl, _, _, _⟩ := Rd.openN h (fun _ => rfl) hn0
  have HG0 := hid hg
  have HM0 := hid hm
  clear hg hm
  by_cases hbig : 1048576 < n0
  · go_enter Tryz.func16, Tryz.ntmps16
    go_wp2
    go_ret
    exact ⟨rfl, Below.refl _ _⟩
  go_enter Tryz.func16, Tryz.ntmps16
  go_wp2_with fail
  refine (spec_DrawWriteAt_c _ l w h hl).mono ?_
  rintro e w1 ⟨sv, xs, root, path, content, rfl, o1, hd, hps, hcs, b1⟩
  have HP : Hid (∀ wx, Below w1.heap.size w1 wx → Pcs wx wx.heap.size sv xs) := hid fun wx hx => (Rd.of_own o1).on hx
  have HG : Hid (∀ wx, Below w1.heap.size w1 wx → Glob wx) := hid fun wx hx => (HG0.out.on b1).on hx
  have HM : Hid (∀ wx, Below w1.heap.size w1 wx → Mx wx) := hid fun wx hx => (HM0.out.on b1).on hx
  have HD := hid hd
  have r0 : Below w1.heap.size w1 w1 := Below.refl _ _
  clear h hl hn0 o1 hd
  have hse := str_eqE (u := path) (t := BC)
  rw [show BC.toList = [47, 98, 47, 99] by rw [ByteArray.toList_eq]; rfl] at hse
  by_cases hpb : path = BC
  · have hse2 : (path.toList == [47, 98, 47, 99]) = true := by rw [hse]; exact decide_eq_true hpb
    clear hse hpb
    go_wp2_with (go_at_call 21; refine (laws_alive_c _).mono ?_; rintro e w99 ⟨rfl, rfl⟩)
    go_ret
    exact ⟨rfl, b1⟩
  have hse2 : (path.toList == [47, 98, 47, 99]) = false := by rw [hse]; exact decide_eq_false hpb
  have HNE := hid hpb
  clear hse hpb
  obtain ⟨⟨A, one, ok⟩, hA⟩ : ∃ R, writeAt xs root (bs path) (bs content) = R := ⟨_, rfl⟩
  have HA := hid hA
  clear hA
  go_wp2_with fail
  refine (impl_WriteAt_c _ xs root path content _ _ HA.out (HP.out _ r0) (by omega) (by omega) (HG.out _ r0) (HM.out _ r0)).mono ?_
  rintro e w2 ⟨av, rfl, A2, b2⟩
  have HA2 := hid A2
  have d12 := bl_then b1 b2
  clear A2
  cases ok
  · go_wp2_with (go_at_call 21; refine (laws_alive_c _).mono ?_; rintro e w99 ⟨rfl, rfl⟩)
    go_ret
    exact ⟨rfl, d12⟩
  obtain ⟨⟨A', two, good⟩, hA'⟩ : ∃ R, writeAt A one (bs BC) (bs OTH) = R := ⟨_, rfl⟩
  have HA' := hid hA'
  obtain ⟨⟨B, first, fine⟩, hB⟩ : ∃ R, writeAt xs root (bs BC) (bs OTH) = R := ⟨_, rfl⟩
  have HB := hid hB
  clear hA' hB
  go_wp2_with fail
  refine (impl_WriteAt_c _ A one BC OTH _ _ HA'.out HA2.out (by decide) (by decide) (HG.out _ b2) (HM.out _ b2)).mono ?_
  rintro e w3 ⟨av', rfl, A3, b3⟩
  have d3 := bl_then b2 b3
  clear A3
  go_wp2_with fail
  refine (impl_WriteAt_c _ xs root BC OTH _ _ HB.out (HP.out _ d3) (by decide) (by decide) (HG.out _ d3) (HM.out _ d3)).mono ?_
  rintro e w4 ⟨bv, rfl, B4, b4⟩
  have d4 := bl_then d3 b4
  have d14 := bl_then b1 d4
  have HB4 := hid B4
  clear B4
  cases good
  · go_wp2_with (go_at_call 21; refine (laws_alive_c _).mono ?_; rintro e w99 ⟨rfl, rfl⟩)
    go_ret
    exact ⟨rfl, d14⟩
  cases fine
  · go_wp2_with (go_at_call 21; refine (laws_alive_c _).mono ?_; rintro e w99 ⟨rfl, rfl⟩)
    go_ret
    exact ⟨rfl, d14⟩
  obtain ⟨⟨B', second, right⟩, hB'⟩ : ∃ R, writeAt B first (bs path) (bs content) = R := ⟨_, rfl⟩
  have HB' := hid hB'
  clear hB'
  go_wp2_with fail
  refine (impl_WriteAt_c _ B first path content _ _ HB'.out HB4.out (by omega) (by omega) (HG.out _ d4) (HM.out _ d4)).mono ?_
  rintro e w5 ⟨bv', rfl, B5, b5⟩
  have d5 := bl_then d14 b5
  clear B5
  cases right
  · go_wp2
    go_ret
    exact ⟨rfl, d5⟩
  · obtain rfl := order_done HNE.out HA.out HA'.out HB.out HB'.out
    go_wp2
    go_ret
    exact ⟨rfl, d5⟩

end Go.Proofs.YtachfmlfmpaddaaGreatDoor
