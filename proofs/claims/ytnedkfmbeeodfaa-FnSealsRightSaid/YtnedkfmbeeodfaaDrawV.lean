/- Walks: drawn versions. -/
import Derived.Test.YtnedkfmbeeodfaaAddV
import Derived.Test.YtnedkfmbeeodfaaDrawS
namespace Go.Proofs.Ytnedkfmbeeodfaa
open Go.RowKit

def VersDrawn (w : World) (g : Nat) (l : List Int) (p : Nat) (e : Ending) (w' : World) : Prop :=
  ∃ (v : Value) (xs : List Ver) (p' : Nat), e = .returned v ∧ OwnV w' w.heap.size v xs ∧ xs.length ≤ 12 ∧ (∀ x ∈ xs, x.note.size ≤ 9) ∧ p' ≤ p + 200 ∧ Reader w' g l p' ∧ w.grownBy w' (some g)

set_option maxHeartbeats 2000000 in
theorem spec_l20Versions_c (g p : Nat) (l : List Int) (n : Int) (w : World) (h : Reader w g l p) (hp : p ≤ 109951162) (hn0 : 0 ≤ n) (hn9 : n ≤ 1000000) :
    Calls Try.prog 71 #[.pointer (some ⟨g, 0, none⟩), .int .i64 n] w (VersDrawn w g l p) := by
  have hgl := h.lt
  obtain ⟨i0, hi0, hz0, hz1, hz2⟩ := info_parts info_ver'
  go_enter Try.func71, Try.ntmps71
  go_wp2_with fail
  refine (spec_pick_c g p l 8 _ (h.alloc _) (by omega)).mono ?_
  rintro e w1 ⟨x, rfl, x0, x8, _, r1, g1⟩
  have x8' := x8 (by omega)
  have o1 : OwnV w1 w.heap.size (.slice (some ⟨w.heap.size, 0, none⟩) 0 0) [] := Own.far (Own.made w (Nat.le_refl _)) g1 (fun b hb => by simp at hb; omega)
  have G1 : w.grownBy w1 (some g) := gb_unalloc g1
  clear h g1 x8
  go_wp2
  go_loopw [5, 6] (fun out k wr => ∃ (c : Int) (q : Nat) (xs : List Ver), k = .int .i64 c ∧ 0 ≤ c ∧ (xs.length : Int) + c ≤ 8 ∧ (q : Int) + 20 * c ≤ p + 180 ∧ OwnV wr w.heap.size out xs ∧ Hid (∀ y ∈ xs, y.note.size ≤ 9) ∧ Reader wr g l q ∧ w.grownBy wr (some g)) (fun _ k _ => (intOf k).toNat)
  case atStart => exact ⟨x, _, [], rfl, x0, by simp; omega, by omega, o1, (fun y hy => by simp at hy), r1, G1⟩
  case round =>
    obtain ⟨c, q, xs, rfl, hc0, hlen, hq, hown, hnote, hr, hG⟩ := hrel
    clear o1 r1 G1
    have hsz := hG.size
    obtain ⟨xn, hxn⟩ : ∃ xn, xs.length = xn := ⟨_, rfl⟩
    obtain ⟨oa, oc, rfl, _, _, _⟩ := (Rd.of_own hown).vers hxn
    rw [hxn] at hlen
    have HXN := hid hxn
    clear hxn
    by_cases hc : 0 < c
    · go_wp2_with fail
      refine (spec_l20Print_c g q l 0 _ hr (by omega) (by omega) (by omega)).mono ?_
      rintro e w2 ⟨r, p2, rfl, hp2, r2, g2⟩
      have o2 := hown.far g2 (fun b hb => by simp at hb; omega)
      have G2 := hG.trans g2
      clear hr hown hG g2
      go_wp2_with fail
      refine (spec_pick_c g p2 l _ _ r2 (by omega)).mono ?_
      rintro e w3 ⟨b, rfl, b0, b3, _, r3, g3⟩
      have b3' := b3 (by omega)
      have o3 := o2.far g3 (fun b hb => by simp at hb; omega)
      have G3 := G2.trans g3
      clear r2 o2 G2 g3 b3
      go_wp2_with fail
      refine (spec_l20Word_c g _ l 0 _ r3 (by omega) (by omega) (by omega)).mono ?_
      rintro e w4 ⟨t, p4, rfl, ht, hp4, r4, g4⟩
      have o4 := o3.far g4 (fun b hb => by simp at hb; omega)
      have G4 := G3.trans g4
      have hs4 := G4.size
      clear r3 o3 G3 g4
      go_wp2_with fail
      refine (spec_AddVersion_c _ xs ⟨r, b - 1, t⟩ _ (Rd.of_own o4) (fun y hy => by have := hnote.out y hy; omega) (by simp only; omega) (by rw [HXN.out]; omega)).mono ?_
      rintro e w5 ⟨v', ok, rfl, o5, b5⟩
      have r5 := r4.on b5
      have G5 := G4.trans (gb_of_below b5 (some g))
      have ha := addV_len xs ⟨r, b - 1, t⟩
      rw [HXN.out] at ha
      have hN5 : Hid (∀ y ∈ addV xs ⟨r, b - 1, t⟩, y.note.size ≤ 9) := fun y hy => by
        rcases addV_mem hy with hy | rfl
        · exact hnote.out y hy
        · exact ht
      have O5 := hid (o5.less hs4)
      clear o4 r4 G4 b5 o5
      go_wp2
      go_roundw
      case rel => exact ⟨c - 1, p4, _, rfl, by omega, by omega, by omega, O5.out, hN5, r5, G5⟩
      case measure => simp [intOf]; omega
    · go_wp2_with fail
      refine (spec_odd_c g q l n _ hr (by omega) hn0 hn9).mono ?_
      rintro e w2 ⟨z, p2, rfl, _, hp2, r2, g2⟩
      have o2 := hown.far g2 (fun b hb => by simp at hb; omega)
      have G2 := hG.trans g2
      have hs2 := G2.size
      have hg2 := r2.lt
      clear hr hown hG g2
      cases z
      · go_wp2
        go_ret
        exact ⟨_, xs, p2, rfl, o2, by rw [HXN.out]; omega, hnote.out, by omega, r2, G2⟩
      · go_wp2_with fail
        refine (spec_pick_c g p2 l 4 _ (r2.alloc _) (by omega)).mono ?_
        rintro e w3 ⟨y, rfl, y0, y4, _, r3, g3⟩
        have y4' := y4 (by omega)
        have hD := (g3.block w2.heap.size (by simp) (some_ne (by omega))).trans (heap_alloc_new w2 _)
        have o3 := (o2.alloc _).far g3 (fun b hb => by simp at hb; omega)
        have G3 := G2.trans (gb_unalloc g3)
        have hs3 := G3.size
        clear r2 o2 G2 g3 y4
        obtain ⟨ve, hve, k0, k1, k2, hy2⟩ : ∃ ve : Ver, ve.note.size ≤ 9 ∧ w3.cell? ⟨w2.heap.size, y.toNat * 3, none⟩ = some (.int .i64 ve.root) ∧ w3.cell? ⟨w2.heap.size, y.toNat * 3 + 1, none⟩ = some (.int .i64 ve.before) ∧ w3.cell? ⟨w2.heap.size, y.toNat * 3 + 2, none⟩ = some (.string ve.note) ∧ y.toNat < 4 := by
          obtain rfl | rfl | rfl | rfl : y = 0 ∨ y = 1 ∨ y = 2 ∨ y = 3 := by omega
          · exact ⟨⟨0, -1, ⟨#[]⟩⟩, by decide, ofRow hD 0 rfl, ofRow hD 1 rfl, ofRow hD 2 rfl, by decide⟩
          · exact ⟨⟨0, xn, ⟨#[97]⟩⟩, (show (⟨#[97]⟩ : ByteArray).size ≤ 9 by decide), ofRow hD 3 rfl, ofRow hD 4 rfl, ofRow hD 5 rfl, by decide⟩
          · exact ⟨⟨-1, 0, ⟨#[97]⟩⟩, by decide, ofRow hD 6 rfl, ofRow hD 7 rfl, ofRow hD 8 rfl, by decide⟩
          · exact ⟨⟨0, -2, ⟨#[97]⟩⟩, by decide, ofRow hD 9 rfl, ofRow hD 10 rfl, ofRow hD 11 rfl, by decide⟩
        obtain ⟨j, rfl⟩ : ∃ j : Nat, y = j := ⟨y.toNat, by omega⟩
        simp only [Int.toNat_natCast] at k0 k1 k2 hy2
        obtain ⟨vr, vb, vt⟩ := ve
        simp only at k0 k1 k2 hve
        have hj4 : (j : Int) < 4 := by omega
        have hlit := Rd.of_own (Own.lit (enc := encV) (e := 52) (k := 3) w3 (B := w3.heap.size) (Nat.le_refl _) [⟨vr, vb, vt⟩, ⟨0, 0, ⟨#[65]⟩⟩] #[.int .i64 vr, .int .i64 vb, .string vt, .int .i64 0, .int .i64 0, .string ⟨#[65]⟩] 2 rfl rfl rfl (by simp [maxLen]))
        have o4 := o3.alloc (.cells #[.int .i64 vr, .int .i64 vb, .string vt, .int .i64 0, .int .i64 0, .string ⟨#[65]⟩] 52)
        have HO4 := hid o4
        clear hD o4 x0 x8'
        go_wp2_with (at_builtin; refine wpList_cat (enc := encV) (w0 := w3.alloc (.cells #[.int .i64 vr, .int .i64 vb, .string vt, .int .i64 0, .int .i64 0, .string ⟨#[65]⟩] 52)) rfl _ _ 57 rfl w.heap.size w.heap.size 52 i0 _ 3 32 Try.underlying57 hi0 hz0 hz1 hz2 rfl (by decide) _ _ xs [⟨vr, vb, vt⟩, ⟨0, 0, ⟨#[65]⟩⟩] HO4.out _ hlit (Below.refl _ _) (by simp; omega) (Nat.le_refl _) rfl rfl (by simp [Value.oneCell']) (by rw [HXN.out]; simp; omega) (by decide) ?_; intro v' w' hown' hb' hB' hg')
        go_ret
        refine ⟨_, _, _, rfl, hown', by rw [List.length_append, HXN.out]; simp; omega, ?_, ?_, (r3.alloc _).kept hg'.1 (fun b hb => by have := (HO4.out.lt b hb).1; omega), gb_out (gb_alloc G3 _) hg'.1 (fun b hb => .inr (HO4.out.lt b hb).1)⟩
        · intro y hy
          rcases List.mem_append.1 hy with hy | hy
          · exact hnote.out y hy
          · simp at hy
            rcases hy with rfl | rfl
            · exact hve
            · decide
        · omega

end Go.Proofs.Ytnedkfmbeeodfaa
