/- Walks and plain facts, joined: PutS. -/
import Derived.Test.YtachfmlfmpaddaaGreatDoorMg5
import Derived.Test.YtachfmlfmpaddaaGreatDoorMg7
import Derived.Test.YtachfmlfmpaddaaGreatDoorMg8
import Derived.Test.YtachfmlfmpaddaaGreatDoorMg10
set_option linter.unusedVariables false
set_option linter.unusedSimpArgs false

/- Walks: the reference's text that is put. -/
namespace Go.Proofs.YtachfmlfmpaddaaGreatDoor
open Go.RowKit

theorem str_neS {u t : ByteArray} (h : u ≠ t) : (u.toList == t.toList) = false := by
  rw [beq_eq_false_iff_ne]
  intro e
  rw [ByteArray.toList_eq, ByteArray.toList_eq] at e
  exact h (Go.WideShapes.bytes_inj e)
theorem some_neS {a b : Nat} (h : a ≠ b) : some a ≠ some b := fun e => h (Option.some.inj e)
def isEmpP (B : Nat) : Value → World → Prop := fun v w => ∃ b, v = .slice (some ⟨b, 0, none⟩) 0 0 ∧ B ≤ b ∧ w.heap[b]? = some (.cells #[] 60 (0, 0)) ∧ OwnP w B v []
def isOwnP (B : Nat) (xs : List Pc) : Value → World → Prop := fun v w => OwnP w B v xs
def isLitP (B : Nat) (p : Int) (t : ByteArray) : Value → World → Prop := fun v w => ∃ b, v = .slice (some ⟨b, 0, none⟩) 1 1 ∧ B ≤ b ∧ w.heap[b]? = some (.cells #[.int .i64 p, .string t] 60 (0, 0))
def isRdP (W0 : World) (xs : List Pc) : Value → World → Prop := fun v _ => Pcs W0 W0.heap.size v xs
def paF (W0 : World) (sl : Value) (xs : List Pc) (q : Nat) (p : Int) (t : ByteArray) : List (Value → World → Prop) :=
  [isEmpP W0.heap.size, isV sl, isV (.int .i64 q), isRdP W0 (xs.take q), isOwnP W0.heap.size ([] ++ xs.take q), isV (.int .i64 p), isV (.string t), isV (.agg #[.int .i64 p, .string t]), isLitP W0.heap.size p t,
   isOwnP W0.heap.size ([] ++ xs.take q ++ [⟨p, t⟩]), isV sl, isV (.int .i64 q), isRdP W0 (xs.drop q), isOwnP W0.heap.size ([] ++ xs.take q ++ [⟨p, t⟩] ++ xs.drop q), isV (.int .i64 p), isOwnP W0.heap.size ([] ++ xs.take q ++ [⟨p, t⟩] ++ xs.drop q), isV (.int .i64 p), isV (.bool true)]
/-- The appends use up what they append to, and the literal. -/
def paCons (j i : Nat) : Bool := (j == 4 && i == 0) || (j == 9 && (i == 4 || i == 8)) || (j == 13 && i == 9)
def paS (j : Nat) (w w' : World) : Prop := w = w' ∨ Below w.heap.size w w' ∨ (j = 4 ∧ ∃ b, w.heap[b]? = some (.cells #[] 60 (0, 0)) ∧ w.grownBy w' (Value.ownBlock (.slice (some ⟨b, 0, none⟩) 0 0))) ∨ j = 9 ∨
  (j = 13 ∧ ∃ (g : Nat) (cs : Array Value), w.heap[g]? = some (.cells cs 60 (0, 0)) ∧ 0 < cs.size ∧ w.grownBy w' (some g))
theorem own_row {w : World} {B : Nat} {v : Value} {xs : List Pc} (h : OwnP w B v xs) (h0 : 0 < xs.length) : ∃ (g : Nat) (cs : Array Value), v.ownBlock = some g ∧ w.heap[g]? = some (.cells cs 60 (0, 0)) ∧ 0 < cs.size := by
  rcases h.2 with ⟨_, h2⟩ | ⟨g, cap, cur, rfl, hb, hg, hnc, hcm, hcs, ht⟩
  · omega
  · exact ⟨g, cur, rfl, hg, by omega⟩
theorem own_far_emp {w w' : World} {B b : Nat} {v : Value} {xs : List Pc} (h : OwnP w B v xs) (hh : w.heap[b]? = some (.cells #[] 60 (0, 0))) (hg : w.grownBy w' (Value.ownBlock (.slice (some ⟨b, 0, none⟩) 0 0))) (h0 : 0 < xs.length) : OwnP w' B v xs := by
  obtain ⟨g, cs, hv, h1, h2⟩ := own_row h h0
  refine h.kept hg (.inr ?_)
  rw [hv]
  intro e
  have e2 : g = b := Option.some.inj e
  subst e2
  rw [hh] at h1
  simp at h1
  subst h1
  simp at h2

/-- The first so many of a row, and the rest. -/
theorem Rd.frontP {w : World} {B n c q : Nat} {a : Option Addr} {xs : List Pc} (h : Pcs w B (.slice a n c) xs) (hn : xs.length = n) (hq : q ≤ n) : Pcs w B (.slice a q c) (xs.take q) := by
  obtain ⟨a', c', hv, h1, h2, h3, h4⟩ := h
  simp only [Value.slice.injEq] at hv
  obtain ⟨rfl, rfl, rfl⟩ := hv
  refine ⟨a, c, by rw [List.length_take, Nat.min_eq_left hq], by rw [List.length_take]; omega, h2, by rw [flatP_take, List.length_take, h3, List.length_take, Nat.min_eq_left (by omega), Nat.min_eq_left hq], fun h0 => ?_⟩
  rw [List.length_take] at h0
  obtain ⟨b, o, rfl, hb, hat⟩ := h4 (by omega)
  refine ⟨b, o, rfl, hb, fun j u hu => hat j u ?_⟩
  rw [flatP_take, List.getElem?_take] at hu
  split at hu
  · exact hu
  · cases hu
theorem Rd.backP {w : World} {B n c q : Nat} {a : Option Addr} {xs : List Pc} (h : Pcs w B (.slice a n c) xs) (hn : xs.length = n) (hq : q ≤ n) : Pcs w B (.slice (if c = q then a else a.map (fun (x : Addr) => x.add (q * 2))) (n - q) (c - q)) (xs.drop q) := by
  obtain ⟨a', c', hv, h1, h2, h3, h4⟩ := h
  simp only [Value.slice.injEq] at hv
  obtain ⟨rfl, rfl, rfl⟩ := hv
  refine ⟨_, c - q, by rw [List.length_drop], by rw [List.length_drop]; omega, Nat.le_trans (Nat.sub_le _ _) h2, by rw [flatP_drop, List.length_drop, h3, List.length_drop, Nat.sub_mul], fun h0 => ?_⟩
  rw [List.length_drop] at h0
  obtain ⟨b, o, rfl, hb, hat⟩ := h4 (by omega)
  have hadd : (⟨b, o, none⟩ : Addr).add (q * 2) = ⟨b, o + q * 2, none⟩ := by unfold Addr.add; split <;> simp_all
  refine ⟨b, o + q * 2, by rw [if_neg (by omega)]; simp [hadd], hb, fun j u hu => ?_⟩
  rw [flatP_drop, List.getElem?_drop] at hu
  have := hat (q * 2 + j) u hu
  rwa [← Nat.add_assoc] at this

set_option maxHeartbeats 2000000 in
set_option maxRecDepth 100000 in
theorem spec_PutText_c (v : Value) (xs : List Pc) (t : ByteArray) (w : World) (h : Pcs w w.heap.size v xs) (hx0 : ∀ x ∈ xs, x.text.size ≤ 1048576) (hl0 : xs.length ≤ 1048576) (hts : t.size ≤ 4611686018427387904) :
    Calls Tryz.prog 107 #[v, .string t] w fun e w' => ∃ v', e = .returned (.tuple #[v', .int .i64 (putS xs t).2.1, .bool (putS xs t).2.2]) ∧ OwnP w' w.heap.size v' (putS xs t).1 ∧ Below w.heap.size w w' := by
  obtain ⟨n, hn⟩ : ∃ n, xs.length = n := ⟨_, rfl⟩
  obtain ⟨a, c, rfl, hnc, hc63, h3⟩ := h.pcs hn
  have HN := hid hn
  have HTS := hid hts
  clear hts
  cases hok : storeOk xs
  · have HO := hid (put_off (t := t) hok)
    clear h3 hn
    rw [HO.out]
    go_enter Tryz.func107, Tryz.ntmps107
    go_wp2_with fail
    refine (spec_StoreValid_c _ xs _ _ h hx0 hl0).mono ?_
    rw [hok]
    rintro e w1 ⟨rfl, z, rfl⟩
    go_wp2
    go_ret3
    exact ⟨_, rfl, Own.made _ (Nat.le_refl _), (bl_drewN (Below.refl _ _) z).alloc (Nat.le_refl _) _⟩
  have HK := hid hok
  have h40 := (st_in hok).1
  rw [hn] at h40
  obtain ⟨p, hp⟩ : ∃ p, printOf (bs t) = p := ⟨_, rfl⟩
  have HZ := hid hp
  obtain ⟨q, hq⟩ : ∃ q, findAt xs p = q := ⟨_, rfl⟩
  have HQ := hid hq
  have hqn := findAt_le xs p
  rw [hq, hn] at hqn
  obtain ⟨i0, hi0, hz0, hz1, hz2⟩ := info_parts info_pcO
  go_enter Tryz.func107, Tryz.ntmps107
  go_wp2_with fail
  refine (spec_StoreValid_c _ xs _ _ h hx0 hl0).mono ?_
  rw [HK.out]
  rintro e w1 ⟨rfl, z, rfl⟩
  obtain ⟨W0, hW0⟩ : ∃ W0, W0 = w.drewN z := ⟨_, rfl⟩
  have h' : Pcs W0 W0.heap.size (.slice a n c) xs := by rw [hW0]; exact h.drewN z
  have d0 : Below w.heap.size w W0 := by rw [hW0]; exact bl_drewN (Below.refl _ _) z
  have hB0 : w.heap.size ≤ W0.heap.size := d0.size
  obtain ⟨a', c', hv0, _, _, h3'⟩ := h'.pcs hn
  simp only [Value.slice.injEq] at hv0
  obtain ⟨e1, _, e2⟩ := hv0
  subst e1
  subst e2
  have hfr := h'.frontP hn hqn
  have hbk := h'.backP hn hqn
  have HH := hid h'
  have hal : Below W0.heap.size W0 (W0.alloc (.cells #[] 60)) := (Below.refl _ _).alloc (Nat.le_refl _) _
  rw [← hW0]
  clear hW0 h3 h h' hx0 hl0 hok hp hq
  go_wp2_with fail
  refine (spec_PrintOf_e _ _ HTS.out HZ.out).mono ?_
  rintro e w2 ⟨rfl, rfl⟩
  go_wp2
  go_loop [8] (fun i => ∃ k : Nat, k ≤ q ∧ i = .int .i64 k) (fun i => n - (intOf i).toNat)
  case atStart => exact ⟨0, Nat.zero_le _, rfl⟩
  case round =>
    obtain ⟨k, hk, rfl⟩ := hrel
    by_cases hlt : k < q
    · obtain ⟨b, o, r, u, rfl, hbl, hx, k0, k1⟩ := h3' k (by omega)
      have hrp := findAt_below (l := xs) (n := p) (by rw [HQ.out]; exact hlt) hx.out
      simp only at hrp
      have hkn : (k : Int) < n := by omega
      clear h3' hfr hbk hal
      go_wp2
      go_round
      case rel => exact ⟨k + 1, by omega, by go_num⟩
      case measure => simp [intOf]; omega
    · obtain rfl : k = q := by omega
      by_cases hkn : k < n
      · obtain ⟨b, o, r, u, rfl, hbl, hx, k0, k1⟩ := h3' k hkn
        have hrp := findAt_at (l := xs) (n := p) (by rw [HQ.out]; exact hx.out)
        simp only at hrp
        have hkn' : (k : Int) < n := by omega
        have hyr : hasP xs p = (r == p) := by
          rw [Bool.eq_iff_iff, beq_iff_eq]
          constructor
          · intro hh
            obtain ⟨x, hx1, _, hx3⟩ := st_find HK.out hh
            rw [HQ.out, hx.out] at hx1
            have := Option.some.inj hx1
            subst this
            exact hx3
          · intro e; exact hasP_iff.2 ⟨_, List.mem_of_getElem? hx.out, e⟩
        clear h3'
        cases hry : (r == p)
        · have HY := hid (hyr.trans hry)
          clear hyr
          cases ht : textOk (bs t)
          · have HO := hid (put_bad HK.out ht)
            have hp1 : p = -1 := by have := HZ.out; unfold printOf at this; rw [ht] at this; simpa using this.symm
            have hpd : decide (p < 0) = true := by simp; omega
            clear ht hp1
            go_wp2_with (at_builtin; refine wpList_cat (enc := encP) (w0 := W0.alloc (.cells #[] 60)) rfl _ _ 23 rfl W0.heap.size W0.heap.size 60 i0 _ 2 24 Tryz.underlying23 hi0 hz0 hz1 hz2 rfl (by decide) _ _ [] xs (Own.made W0 (Nat.le_refl _)) _ (HH.out.below hal (Nat.le_refl _)) (Below.refl _ _) (by simp) (Nat.le_refl _) rfl rfl encP_one (by have := HN.out; simp; omega) (by decide) ?_; intro v' w' hown' hb' hB' hg')
            go_ret3
            exact ⟨v', (congrArg (fun z : List Pc × Int × Bool => Ending.returned (.tuple #[v', .int .i64 z.2.1, .bool z.2.2])) HO.out.symm), by rw [HO.out]; exact hown'.less hB0, bl_then d0 (hal.trans hb')⟩
          · have hpp : 0 ≤ p := by have := printOf_in ht; rw [HZ.out] at this; exact (pv_iff.1 this).1
            have hpd : decide (p < 0) = false := by simp; omega
            have hgn : getP xs p = none := by have := HY.out; unfold hasP at this; simpa using this
            by_cases hfull : n = 40
            · have HO := hid (put_full HK.out ht (by rw [HZ.out]; exact hgn) (by rw [HN.out]; exact hfull))
              have hfi : ((n : Int) == 40) = true := by rw [hfull]; rfl
              clear ht hgn hfull
              go_wp2_with (at_builtin; refine wpList_cat (enc := encP) (w0 := W0.alloc (.cells #[] 60)) rfl _ _ 23 rfl W0.heap.size W0.heap.size 60 i0 _ 2 24 Tryz.underlying23 hi0 hz0 hz1 hz2 rfl (by decide) _ _ [] xs (Own.made W0 (Nat.le_refl _)) _ (HH.out.below hal (Nat.le_refl _)) (Below.refl _ _) (by simp) (Nat.le_refl _) rfl rfl encP_one (by have := HN.out; simp; omega) (by decide) ?_; intro v' w' hown' hb' hB' hg')
              go_ret3
              exact ⟨v', (congrArg (fun z : List Pc × Int × Bool => Ending.returned (.tuple #[v', .int .i64 z.2.1, .bool z.2.2])) HO.out.symm), by rw [HO.out]; exact hown'.less hB0, bl_then d0 (hal.trans hb')⟩
            · have HO := hid ((put_new HK.out ht (by rw [HZ.out]; exact hgn) (by rw [HN.out]; exact hfull)).trans (by rw [HZ.out]))
              have hfi : ((n : Int) == 40) = false := by simp; omega
              have HI := hid (show insP xs p t = xs.take k ++ ([⟨p, t⟩] ++ xs.drop k) by unfold insP; rw [HQ.out]; rfl)
              clear ht hgn hfull
              go_wp2
              have hq0 : (k : Int) ≤ n := by omega
              have hqc : (k : Int) ≤ c := by omega
              refine wp_region_inv3d rfl (by kernel_rfl) (by kernel_rfl) (by kernel_rfl) (by kernel_rfl) (by simp) (fun _ w' => Below W0.heap.size W0 w') (fun j w' w'' => paS j w' w'') (fact (paF W0 (.slice (some ⟨b, o, none⟩) n c) xs k p t)) paCons (Below.refl _ _).drew ?hF ?grd ?oo ?cg ?fin
              case hF =>
                intro j i v w' w'' hS hc hne hwt hdp hf
                have hi : i < 18 ∨ 18 ≤ i := by omega
                rcases hi with hi | hi
                · obtain rfl | rfl | rfl | rfl | rfl | rfl | rfl | rfl | rfl | rfl | rfl | rfl | rfl | rfl | rfl | rfl | rfl | rfl : i = 0 ∨ i = 1 ∨ i = 2 ∨ i = 3 ∨ i = 4 ∨ i = 5 ∨ i = 6 ∨ i = 7 ∨ i = 8 ∨ i = 9 ∨ i = 10 ∨ i = 11 ∨ i = 12 ∨ i = 13 ∨ i = 14 ∨ i = 15 ∨ i = 16 ∨ i = 17 := by omega
                  · rcases hS with rfl | hb | ⟨rfl, b, hh, hg⟩ | rfl | ⟨rfl, g, cs, hh, hs, hg⟩
                    · exact hf
                    · obtain ⟨b0, h1, h2, h3, h4⟩ := hf; exact ⟨b0, h1, h2, (hb.block b0 (Array.getElem?_eq_some_iff.1 h3).1).trans h3, h4.on hb⟩
                    · simp [paCons] at hc
                    · have h9 := hdp _ rfl ⟨4, .data⟩ (by simp) rfl; simp [paCons] at h9
                    · obtain ⟨b0, h1, h2, h3, h4⟩ := hf
                      have hne' : b0 ≠ g := by rintro rfl; rw [h3] at hh; simp at hh; subst hh; simp at hs
                      exact ⟨b0, h1, h2, (hg.block b0 (Array.getElem?_eq_some_iff.1 h3).1 (some_neS hne')).trans h3, h4.kept hg (.inr (by rw [h1]; exact some_neS hne'))⟩
                  · exact hf
                  · exact hf
                  · exact hf
                  · rcases hS with rfl | hb | ⟨rfl, b, hh, hg⟩ | rfl | ⟨rfl, g, cs, hh, hs, hg⟩
                    · exact hf
                    · exact Own.on hf hb
                    · exact absurd rfl hne
                    · simp [paCons] at hc
                    · have h9 := hdp _ rfl ⟨9, .data⟩ (by simp) rfl; simp [paCons] at h9
                  · exact hf
                  · exact hf
                  · exact hf
                  · rcases hS with rfl | hb | ⟨rfl, b, hh, hg⟩ | rfl | ⟨rfl, g, cs, hh, hs, hg⟩
                    · exact hf
                    · obtain ⟨b0, h1, h2, h3⟩ := hf; exact ⟨b0, h1, h2, (hb.block b0 (Array.getElem?_eq_some_iff.1 h3).1).trans h3⟩
                    · obtain ⟨b0, h1, h2, h3⟩ := hf; exact ⟨b0, h1, h2, (hg.block b0 (Array.getElem?_eq_some_iff.1 h3).1 (some_neS (by rintro rfl; rw [hh] at h3; simp at h3))).trans h3⟩
                    · simp [paCons] at hc
                    · have h9 := hdp _ rfl ⟨9, .data⟩ (by simp) rfl; simp [paCons] at h9
                  · rcases hS with rfl | hb | ⟨rfl, b, hh, hg⟩ | rfl | ⟨rfl, g, cs, hh, hs, hg⟩
                    · exact hf
                    · exact Own.on hf hb
                    · exact own_far_emp hf hh hg (by simp <;> omega)
                    · exact absurd rfl hne
                    · simp [paCons] at hc
                  · exact hf
                  · exact hf
                  · exact hf
                  · rcases hS with rfl | hb | ⟨rfl, b, hh, hg⟩ | rfl | ⟨rfl, g, cs, hh, hs, hg⟩
                    · exact hf
                    · exact Own.on hf hb
                    · exact own_far_emp hf hh hg (by simp <;> omega)
                    · exact absurd (hwt.symm.trans (c := true) (by kernel_rfl)) (by decide)
                    · exact absurd rfl hne
                  · exact hf
                  · rcases hS with rfl | hb | ⟨rfl, b, hh, hg⟩ | rfl | ⟨rfl, g, cs, hh, hs, hg⟩
                    · exact hf
                    · exact Own.on hf hb
                    · exact own_far_emp hf hh hg (by simp <;> omega)
                    · exact absurd (hwt.symm.trans (c := true) (by kernel_rfl)) (by decide)
                    · exact absurd (hwt.symm.trans (c := true) (by kernel_rfl)) (by decide)
                  · exact hf
                  · exact hf
                · unfold fact at *; rw [List.getD_eq_getElem?_getD, List.getElem?_eq_none (by simpa [paF] using hi)]; trivial
              case grd =>
                intro i oo d bb hi hg v w' hf
                obtain ⟨hlt1, rfl⟩ := Array.getElem?_eq_some_iff.1 hi
                have hlt' : i < 18 := hlt1
                clear hi
                obtain rfl | rfl | rfl | rfl | rfl | rfl | rfl | rfl | rfl | rfl | rfl | rfl | rfl | rfl | rfl | rfl | rfl | rfl : i = 0 ∨ i = 1 ∨ i = 2 ∨ i = 3 ∨ i = 4 ∨ i = 5 ∨ i = 6 ∨ i = 7 ∨ i = 8 ∨ i = 9 ∨ i = 10 ∨ i = 11 ∨ i = 12 ∨ i = 13 ∨ i = 14 ∨ i = 15 ∨ i = 16 ∨ i = 17 := by omega
                all_goals simp at hg
              case cg =>
                intro i oo d bb hi hg j
                obtain ⟨hlt1, rfl⟩ := Array.getElem?_eq_some_iff.1 hi
                have hlt' : i < 18 := hlt1
                clear hi
                obtain rfl | rfl | rfl | rfl | rfl | rfl | rfl | rfl | rfl | rfl | rfl | rfl | rfl | rfl | rfl | rfl | rfl | rfl : i = 0 ∨ i = 1 ∨ i = 2 ∨ i = 3 ∨ i = 4 ∨ i = 5 ∨ i = 6 ∨ i = 7 ∨ i = 8 ∨ i = 9 ∨ i = 10 ∨ i = 11 ∨ i = 12 ∨ i = 13 ∨ i = 14 ∨ i = 15 ∨ i = 16 ∨ i = 17 := by omega
                all_goals simp at hg
              case oo =>
                intro i oo hi qn a' wk hnn hj hb' hd
                obtain ⟨hlt1, rfl⟩ := Array.getElem?_eq_some_iff.1 hi
                have hlt' : i < 18 := hlt1
                clear hi
                obtain rfl | rfl | rfl | rfl | rfl | rfl | rfl | rfl | rfl | rfl | rfl | rfl | rfl | rfl | rfl | rfl | rfl | rfl : i = 0 ∨ i = 1 ∨ i = 2 ∨ i = 3 ∨ i = 4 ∨ i = 5 ∨ i = 6 ∨ i = 7 ∨ i = 8 ∨ i = 9 ∨ i = 10 ∨ i = 11 ∨ i = 12 ∨ i = 13 ∨ i = 14 ∨ i = 15 ∨ i = 16 ∨ i = 17 := by omega
                · exact iv_val (v := .slice (some ⟨wk.heap.size, 0, none⟩) 0 0) (w' := wk.alloc (.cells #[] 60)) (by simp [execOp, go_sem, Result.andThen]) ⟨_, rfl, hj.alloc hj.size _, .inr (.inl ((Below.refl _ _).alloc (Nat.le_refl _) _)), (show isEmpP _ _ _ from ⟨_, rfl, hj.size, heap_alloc_new _ _, Own.made _ hj.size⟩)⟩
                · have b0 : a'.eval (.tmp 0) = .slice (some ⟨b, o, none⟩) n c := hb' 0 (by rfl); have c0 := ev_get b0
                  exact iv_val (v := .slice (some ⟨b, o, none⟩) n c) (by simp [execOp, b0]) ⟨_, rfl, hj, .inl rfl, rfl⟩
                · have b8 : a'.eval (.tmp 8) = .int .i64 k := hb' 8 (by rfl); have c8 := ev_get b8
                  exact iv_val (v := .int .i64 k) (by simp [execOp, b8]) ⟨_, rfl, hj, .inl rfl, rfl⟩
                · have v1 : a'.eval (.tmp 78) = .slice (some ⟨b, o, none⟩) n c := hd ⟨1, .data⟩ (by simp) rfl (by intro j _ hc; revert hc; unfold paCons; simp; try omega); have u1 := ev_get v1
                  have v2 : a'.eval (.tmp 79) = .int .i64 k := hd ⟨2, .data⟩ (by simp) rfl (by intro j _ hc; revert hc; unfold paCons; simp; try omega); have u2 := ev_get v2
                  exact iv_val (v := .slice (some ⟨b, o, none⟩) k c) (by simp [execOp, u1, u2, hqc, go_sem, Result.andThen]) ⟨_, rfl, hj, .inl rfl, (show isRdP W0 (xs.take k) _ wk from hfr)⟩
                · have e0 : isEmpP W0.heap.size (a'.eval (.tmp 77)) wk := hd ⟨0, .data⟩ (by simp) rfl (by intro j _ hc; revert hc; unfold paCons; simp; try omega)
                  obtain ⟨b0, v0, hb0, hh0, o0⟩ := e0
                  have e3 : isRdP W0 (xs.take k) (a'.eval (.tmp 80)) wk := hd ⟨3, .data⟩ (by simp) rfl (by intro j _ hc; revert hc; unfold paCons; simp; try omega)
                  obtain ⟨i0, hi0, hz0, hz1, hz2⟩ := info_parts info_pcO
                  refine wp_cat (enc := encP) wk (.tmp 77) (.tmp 80) 23 rfl W0.heap.size 60 i0 _ 2 24 Tryz.underlying23 hi0 hz0 hz1 hz2 rfl (by decide) (a'.eval (.tmp 77)) (a'.eval (.tmp 80)) [] (xs.take k) rfl rfl o0 _ (Rd.below e3 hj (Nat.le_refl _)) encP_one (by simp; omega) (by decide) hj.size ?_
                  intro v' w' ho hg hg'
                  rw [v0] at hg
                  exact ⟨_, rfl, hj.grown hg hj.size (fun g hg1 => by simp [Value.ownBlock] at hg1; omega), .inr (.inr (.inl ⟨rfl, b0, hh0, hg⟩)), (show isOwnP _ _ _ _ from ho)⟩
                · have b7 : a'.eval (.tmp 7) = .int .i64 p := hb' 7 (by rfl); have c7 := ev_get b7
                  exact iv_val (v := .int .i64 p) (by simp [execOp, b7]) ⟨_, rfl, hj, .inl rfl, rfl⟩
                · have b1 : a'.eval (.tmp 1) = .string t := hb' 1 (by rfl); have c1 := ev_get b1
                  exact iv_val (v := .string t) (by simp [execOp, b1]) ⟨_, rfl, hj, .inl rfl, rfl⟩
                · have v5 : a'.eval (.tmp 82) = .int .i64 p := hd ⟨5, .data⟩ (by simp) rfl (by intro j _ hc; revert hc; unfold paCons; simp; try omega); have u5 := ev_get v5
                  have v6 : a'.eval (.tmp 83) = .string t := hd ⟨6, .data⟩ (by simp) rfl (by intro j _ hc; revert hc; unfold paCons; simp; try omega); have u6 := ev_get v6
                  exact iv_val (v := .agg #[.int .i64 p, .string t]) (by simp [execOp, u5, u6, go_sem, Result.andThen]) ⟨_, rfl, hj, .inl rfl, rfl⟩
                · have v7 : a'.eval (.tmp 84) = .agg #[.int .i64 p, .string t] := hd ⟨7, .data⟩ (by simp) rfl (by intro j _ hc; revert hc; unfold paCons; simp; try omega); have u7 := ev_get v7
                  exact iv_val (v := .slice (some ⟨wk.heap.size, 0, none⟩) 1 1) (w' := wk.alloc (.cells #[.int .i64 p, .string t] 60)) (by simp [execOp, u7, go_sem, Result.andThen]) ⟨_, rfl, hj.alloc hj.size _, .inr (.inl ((Below.refl _ _).alloc (Nat.le_refl _) _)), (show isLitP _ _ _ _ _ from ⟨_, rfl, hj.size, heap_alloc_new _ _⟩)⟩
                · have e4 : isOwnP W0.heap.size ([] ++ xs.take k) (a'.eval (.tmp 81)) wk := hd ⟨4, .data⟩ (by simp) rfl (by intro j _ hc; revert hc; unfold paCons; simp; try omega)
                  have e8 : isLitP W0.heap.size p t (a'.eval (.tmp 85)) wk := hd ⟨8, .data⟩ (by simp) rfl (by intro j _ hc; revert hc; unfold paCons; simp; try omega)
                  obtain ⟨b8, v8, hb8, hh8⟩ := e8
                  obtain ⟨i0, hi0, hz0, hz1, hz2⟩ := info_parts info_pcO
                  refine wp_cat (enc := encP) wk (.tmp 81) (.tmp 85) 23 rfl W0.heap.size 60 i0 _ 2 24 Tryz.underlying23 hi0 hz0 hz1 hz2 rfl (by decide) (a'.eval (.tmp 81)) (.slice (some ⟨b8, 0, none⟩) 1 1) ([] ++ xs.take k) [(⟨p, t⟩ : Pc)] rfl v8 e4 _ (lit_rdP hh8) encP_one (by simp; omega) (by decide) hj.size ?_
                  intro v' w' ho hg hg'
                  exact ⟨_, rfl, hj.grown hg hj.size (fun g hg1 => (Own.lt e4 g hg1).1), .inr (.inr (.inr (.inl rfl))), (show isOwnP _ _ _ _ from ho)⟩
                · have b0 : a'.eval (.tmp 0) = .slice (some ⟨b, o, none⟩) n c := hb' 0 (by rfl); have c0 := ev_get b0
                  exact iv_val (v := .slice (some ⟨b, o, none⟩) n c) (by simp [execOp, b0]) ⟨_, rfl, hj, .inl rfl, rfl⟩
                · have b8 : a'.eval (.tmp 8) = .int .i64 k := hb' 8 (by rfl); have c8 := ev_get b8
                  exact iv_val (v := .int .i64 k) (by simp [execOp, b8]) ⟨_, rfl, hj, .inl rfl, rfl⟩
                · have v10 : a'.eval (.tmp 87) = .slice (some ⟨b, o, none⟩) n c := hd ⟨10, .data⟩ (by simp) rfl (by intro j _ hc; revert hc; unfold paCons; simp; try omega); have u10 := ev_get v10
                  have v11 : a'.eval (.tmp 88) = .int .i64 k := hd ⟨11, .data⟩ (by simp) rfl (by intro j _ hc; revert hc; unfold paCons; simp; try omega); have u11 := ev_get v11
                  refine iv_val (v := .slice (if c = k then (some ⟨b, o, none⟩) else Option.map (fun (x : Addr) => x.add (k * 2)) (some ⟨b, o, none⟩)) (n - k) (c - k)) ?_ ⟨_, rfl, hj, .inl rfl, (show isRdP W0 (xs.drop k) _ wk from hbk)⟩
                  simp [execOp, u10, u11, hq0, go_sem, Result.andThen]
                · have e9 : isOwnP W0.heap.size ([] ++ xs.take k ++ [(⟨p, t⟩ : Pc)]) (a'.eval (.tmp 86)) wk := hd ⟨9, .data⟩ (by simp) rfl (by intro j _ hc; revert hc; unfold paCons; simp; try omega)
                  have e12 : isRdP W0 (xs.drop k) (a'.eval (.tmp 89)) wk := hd ⟨12, .data⟩ (by simp) rfl (by intro j _ hc; revert hc; unfold paCons; simp; try omega)
                  obtain ⟨i0, hi0, hz0, hz1, hz2⟩ := info_parts info_pcO
                  obtain ⟨g9, cs9, hg9, hh9, hs9⟩ := own_row e9 (by simp)
                  refine wp_cat (enc := encP) wk (.tmp 86) (.tmp 89) 23 rfl W0.heap.size 60 i0 _ 2 24 Tryz.underlying23 hi0 hz0 hz1 hz2 rfl (by decide) (a'.eval (.tmp 86)) (a'.eval (.tmp 89)) ([] ++ xs.take k ++ [(⟨p, t⟩ : Pc)]) (xs.drop k) rfl rfl e9 _ (Rd.below e12 hj (Nat.le_refl _)) encP_one (by simp; omega) (by decide) hj.size ?_
                  intro v' w' ho hg hg'
                  exact ⟨_, rfl, hj.grown hg hj.size (fun g hg1 => (Own.lt e9 g hg1).1), .inr (.inr (.inr (.inr ⟨rfl, g9, cs9, hh9, hs9, hg9 ▸ hg⟩))), (show isOwnP _ _ _ _ from ho)⟩
                · have b7 : a'.eval (.tmp 7) = .int .i64 p := hb' 7 (by rfl); have c7 := ev_get b7
                  exact iv_val (v := .int .i64 p) (by simp [execOp, b7]) ⟨_, rfl, hj, .inl rfl, rfl⟩
                · have e13 : isOwnP W0.heap.size ([] ++ xs.take k ++ [(⟨p, t⟩ : Pc)] ++ xs.drop k) (a'.eval (.tmp 90)) wk := hd ⟨13, .data⟩ (by simp) rfl (by intro j _ hc; revert hc; unfold paCons; simp; try omega)
                  exact iv_val (v := a'.eval (.tmp 90)) (by simp [execOp]) ⟨_, rfl, hj, .inl rfl, e13⟩
                · have v14 : a'.eval (.tmp 91) = .int .i64 p := hd ⟨14, .data⟩ (by simp) rfl (by intro j _ hc; revert hc; unfold paCons; simp; try omega); have u14 := ev_get v14
                  exact iv_val (v := .int .i64 p) (by simp [execOp, v14]) ⟨_, rfl, hj, .inl rfl, rfl⟩
                · exact iv_val (v := .bool true) (by simp [execOp, Act.eval]) ⟨_, rfl, hj, .inl rfl, rfl⟩
              case fin =>
                intro tm w4 hj hF
                have o15 : OwnP w4 W0.heap.size (tm.getD 4 undef) ([] ++ xs.take k ++ [(⟨p, t⟩ : Pc)] ++ xs.drop k) := hF 15 _ rfl (fun j => by unfold paCons; simp)
                have q16 : tm.getD 5 undef = .int .i64 p := hF 16 _ rfl (fun j => by unfold paCons; simp)
                have q17 : tm.getD 6 undef = .bool true := hF 17 _ rfl (fun j => by unfold paCons; simp)
                rw [List.nil_append, List.append_assoc] at o15
                clear hF
                simp only [refillL, List.setIfInBounds_toArray, List.set_cons_succ, List.set_cons_zero]
                obtain ⟨sv, hsv⟩ : ∃ sv, tm.getD 4 undef = sv := ⟨_, rfl⟩
                rw [hsv] at o15 ⊢
                rw [q16, q17]
                go_wp2
                go_ret3
                exact ⟨sv, (congrArg (fun z : List Pc × Int × Bool => Ending.returned (.tuple #[sv, .int .i64 z.2.1, .bool z.2.2])) HO.out.symm), by rw [HO.out, HI.out]; exact o15.less hB0, bl_then d0 hj⟩
        · have hrp2 : r = p := by simpa using hry
          subst hrp2
          have hgt := find_has (l := xs) (n := r) (x := ⟨r, u⟩) (st_asc HK.out) (by rw [HQ.out]; exact hx.out) rfl
          simp only at hgt
          have hpk := (pcOk_pv (st_all HK.out (List.mem_of_getElem? hx.out))).1
          simp only at hpk
          have hpd : decide (r < 0) = false := by simp; omega
          have ht : textOk (bs t) = true := by
            cases ht : textOk (bs t)
            · have := HZ.out; unfold printOf at this; rw [ht] at this; simp at this; omega
            · rfl
          by_cases hut : u = t
          · subst hut
            have HO := hid ((put_there HK.out ht (by rw [HZ.out]; exact hgt)).trans (by rw [HZ.out]))
            clear ht hgt hyr
            go_wp2_with (at_builtin; refine wpList_cat (enc := encP) (w0 := W0.alloc (.cells #[] 60)) rfl _ _ 23 rfl W0.heap.size W0.heap.size 60 i0 _ 2 24 Tryz.underlying23 hi0 hz0 hz1 hz2 rfl (by decide) _ _ [] xs (Own.made W0 (Nat.le_refl _)) _ (HH.out.below hal (Nat.le_refl _)) (Below.refl _ _) (by simp) (Nat.le_refl _) rfl rfl encP_one (by have := HN.out; simp; omega) (by decide) ?_; intro v' w' hown' hb' hB' hg')
            go_ret3
            exact ⟨v', (congrArg (fun z : List Pc × Int × Bool => Ending.returned (.tuple #[v', .int .i64 z.2.1, .bool z.2.2])) HO.out.symm), by rw [HO.out]; exact hown'.less hB0, bl_then d0 (hal.trans hb')⟩
          · have HO := hid (put_other HK.out ht (by rw [HZ.out]; exact hgt) hut)
            have hsn := str_neS hut
            clear ht hgt hyr hut
            go_wp2_with (at_builtin; refine wpList_cat (enc := encP) (w0 := W0.alloc (.cells #[] 60)) rfl _ _ 23 rfl W0.heap.size W0.heap.size 60 i0 _ 2 24 Tryz.underlying23 hi0 hz0 hz1 hz2 rfl (by decide) _ _ [] xs (Own.made W0 (Nat.le_refl _)) _ (HH.out.below hal (Nat.le_refl _)) (Below.refl _ _) (by simp) (Nat.le_refl _) rfl rfl encP_one (by have := HN.out; simp; omega) (by decide) ?_; intro v' w' hown' hb' hB' hg')
            go_ret3
            exact ⟨v', (congrArg (fun z : List Pc × Int × Bool => Ending.returned (.tuple #[v', .int .i64 z.2.1, .bool z.2.2])) HO.out.symm), by rw [HO.out]; exact hown'.less hB0, bl_then d0 (hal.trans hb')⟩
      · have HY := hid (show hasP xs p = false by
          rw [Bool.eq_false_iff]
          intro hh
          obtain ⟨x, hx1, _, _⟩ := st_find HK.out hh
          rw [HQ.out] at hx1
          have := (List.getElem?_eq_some_iff.1 hx1).1
          have := HN.out
          omega)
        cases ht : textOk (bs t)
        · have HO := hid (put_bad HK.out ht)
          have hp1 : p = -1 := by have := HZ.out; unfold printOf at this; rw [ht] at this; simpa using this.symm
          have hpd : decide (p < 0) = true := by simp; omega
          clear ht hp1
          go_wp2_with (at_builtin; refine wpList_cat (enc := encP) (w0 := W0.alloc (.cells #[] 60)) rfl _ _ 23 rfl W0.heap.size W0.heap.size 60 i0 _ 2 24 Tryz.underlying23 hi0 hz0 hz1 hz2 rfl (by decide) _ _ [] xs (Own.made W0 (Nat.le_refl _)) _ (HH.out.below hal (Nat.le_refl _)) (Below.refl _ _) (by simp) (Nat.le_refl _) rfl rfl encP_one (by have := HN.out; simp; omega) (by decide) ?_; intro v' w' hown' hb' hB' hg')
          go_ret3
          exact ⟨v', (congrArg (fun z : List Pc × Int × Bool => Ending.returned (.tuple #[v', .int .i64 z.2.1, .bool z.2.2])) HO.out.symm), by rw [HO.out]; exact hown'.less hB0, bl_then d0 (hal.trans hb')⟩
        · have hpp : 0 ≤ p := by have := printOf_in ht; rw [HZ.out] at this; exact (pv_iff.1 this).1
          have hpd : decide (p < 0) = false := by simp; omega
          have hgn : getP xs p = none := by have := HY.out; unfold hasP at this; simpa using this
          by_cases hfull : n = 40
          · have HO := hid (put_full HK.out ht (by rw [HZ.out]; exact hgn) (by rw [HN.out]; exact hfull))
            have hfi : ((n : Int) == 40) = true := by rw [hfull]; rfl
            clear ht hgn hfull
            go_wp2_with (at_builtin; refine wpList_cat (enc := encP) (w0 := W0.alloc (.cells #[] 60)) rfl _ _ 23 rfl W0.heap.size W0.heap.size 60 i0 _ 2 24 Tryz.underlying23 hi0 hz0 hz1 hz2 rfl (by decide) _ _ [] xs (Own.made W0 (Nat.le_refl _)) _ (HH.out.below hal (Nat.le_refl _)) (Below.refl _ _) (by simp) (Nat.le_refl _) rfl rfl encP_one (by have := HN.out; simp; omega) (by decide) ?_; intro v' w' hown' hb' hB' hg')
            go_ret3
            exact ⟨v', (congrArg (fun z : List Pc × Int × Bool => Ending.returned (.tuple #[v', .int .i64 z.2.1, .bool z.2.2])) HO.out.symm), by rw [HO.out]; exact hown'.less hB0, bl_then d0 (hal.trans hb')⟩
          · have HO := hid ((put_new HK.out ht (by rw [HZ.out]; exact hgn) (by rw [HN.out]; exact hfull)).trans (by rw [HZ.out]))
            have hfi : ((n : Int) == 40) = false := by simp; omega
            have HI := hid (show insP xs p t = xs.take k ++ ([⟨p, t⟩] ++ xs.drop k) by unfold insP; rw [HQ.out]; rfl)
            clear ht hgn hfull
            go_wp2
            have hq0 : (k : Int) ≤ n := by omega
            have hqc : (k : Int) ≤ c := by omega
            refine wp_region_inv3d rfl (by kernel_rfl) (by kernel_rfl) (by kernel_rfl) (by kernel_rfl) (by simp) (fun _ w' => Below W0.heap.size W0 w') (fun j w' w'' => paS j w' w'') (fact (paF W0 (.slice a n c) xs k p t)) paCons (Below.refl _ _).drew ?hF ?grd ?oo ?cg ?fin
            case hF =>
              intro j i v w' w'' hS hc hne hwt hdp hf
              have hi : i < 18 ∨ 18 ≤ i := by omega
              rcases hi with hi | hi
              · obtain rfl | rfl | rfl | rfl | rfl | rfl | rfl | rfl | rfl | rfl | rfl | rfl | rfl | rfl | rfl | rfl | rfl | rfl : i = 0 ∨ i = 1 ∨ i = 2 ∨ i = 3 ∨ i = 4 ∨ i = 5 ∨ i = 6 ∨ i = 7 ∨ i = 8 ∨ i = 9 ∨ i = 10 ∨ i = 11 ∨ i = 12 ∨ i = 13 ∨ i = 14 ∨ i = 15 ∨ i = 16 ∨ i = 17 := by omega
                · rcases hS with rfl | hb | ⟨rfl, b, hh, hg⟩ | rfl | ⟨rfl, g, cs, hh, hs, hg⟩
                  · exact hf
                  · obtain ⟨b0, h1, h2, h3, h4⟩ := hf; exact ⟨b0, h1, h2, (hb.block b0 (Array.getElem?_eq_some_iff.1 h3).1).trans h3, h4.on hb⟩
                  · simp [paCons] at hc
                  · have h9 := hdp _ rfl ⟨4, .data⟩ (by simp) rfl; simp [paCons] at h9
                  · obtain ⟨b0, h1, h2, h3, h4⟩ := hf
                    have hne' : b0 ≠ g := by rintro rfl; rw [h3] at hh; simp at hh; subst hh; simp at hs
                    exact ⟨b0, h1, h2, (hg.block b0 (Array.getElem?_eq_some_iff.1 h3).1 (some_neS hne')).trans h3, h4.kept hg (.inr (by rw [h1]; exact some_neS hne'))⟩
                · exact hf
                · exact hf
                · exact hf
                · rcases hS with rfl | hb | ⟨rfl, b, hh, hg⟩ | rfl | ⟨rfl, g, cs, hh, hs, hg⟩
                  · exact hf
                  · exact Own.on hf hb
                  · exact absurd rfl hne
                  · simp [paCons] at hc
                  · have h9 := hdp _ rfl ⟨9, .data⟩ (by simp) rfl; simp [paCons] at h9
                · exact hf
                · exact hf
                · exact hf
                · rcases hS with rfl | hb | ⟨rfl, b, hh, hg⟩ | rfl | ⟨rfl, g, cs, hh, hs, hg⟩
                  · exact hf
                  · obtain ⟨b0, h1, h2, h3⟩ := hf; exact ⟨b0, h1, h2, (hb.block b0 (Array.getElem?_eq_some_iff.1 h3).1).trans h3⟩
                  · obtain ⟨b0, h1, h2, h3⟩ := hf; exact ⟨b0, h1, h2, (hg.block b0 (Array.getElem?_eq_some_iff.1 h3).1 (some_neS (by rintro rfl; rw [hh] at h3; simp at h3))).trans h3⟩
                  · simp [paCons] at hc
                  · have h9 := hdp _ rfl ⟨9, .data⟩ (by simp) rfl; simp [paCons] at h9
                · rcases hS with rfl | hb | ⟨rfl, b, hh, hg⟩ | rfl | ⟨rfl, g, cs, hh, hs, hg⟩
                  · exact hf
                  · exact Own.on hf hb
                  · exact own_far_emp hf hh hg (by simp <;> omega)
                  · exact absurd rfl hne
                  · simp [paCons] at hc
                · exact hf
                · exact hf
                · exact hf
                · rcases hS with rfl | hb | ⟨rfl, b, hh, hg⟩ | rfl | ⟨rfl, g, cs, hh, hs, hg⟩
                  · exact hf
                  · exact Own.on hf hb
                  · exact own_far_emp hf hh hg (by simp <;> omega)
                  · exact absurd (hwt.symm.trans (c := true) (by kernel_rfl)) (by decide)
                  · exact absurd rfl hne
                · exact hf
                · rcases hS with rfl | hb | ⟨rfl, b, hh, hg⟩ | rfl | ⟨rfl, g, cs, hh, hs, hg⟩
                  · exact hf
                  · exact Own.on hf hb
                  · exact own_far_emp hf hh hg (by simp <;> omega)
                  · exact absurd (hwt.symm.trans (c := true) (by kernel_rfl)) (by decide)
                  · exact absurd (hwt.symm.trans (c := true) (by kernel_rfl)) (by decide)
                · exact hf
                · exact hf
              · unfold fact at *; rw [List.getD_eq_getElem?_getD, List.getElem?_eq_none (by simpa [paF] using hi)]; trivial
            case grd =>
              intro i oo d bb hi hg v w' hf
              obtain ⟨hlt1, rfl⟩ := Array.getElem?_eq_some_iff.1 hi
              have hlt' : i < 18 := hlt1
              clear hi
              obtain rfl | rfl | rfl | rfl | rfl | rfl | rfl | rfl | rfl | rfl | rfl | rfl | rfl | rfl | rfl | rfl | rfl | rfl : i = 0 ∨ i = 1 ∨ i = 2 ∨ i = 3 ∨ i = 4 ∨ i = 5 ∨ i = 6 ∨ i = 7 ∨ i = 8 ∨ i = 9 ∨ i = 10 ∨ i = 11 ∨ i = 12 ∨ i = 13 ∨ i = 14 ∨ i = 15 ∨ i = 16 ∨ i = 17 := by omega
              all_goals simp at hg
            case cg =>
              intro i oo d bb hi hg j
              obtain ⟨hlt1, rfl⟩ := Array.getElem?_eq_some_iff.1 hi
              have hlt' : i < 18 := hlt1
              clear hi
              obtain rfl | rfl | rfl | rfl | rfl | rfl | rfl | rfl | rfl | rfl | rfl | rfl | rfl | rfl | rfl | rfl | rfl | rfl : i = 0 ∨ i = 1 ∨ i = 2 ∨ i = 3 ∨ i = 4 ∨ i = 5 ∨ i = 6 ∨ i = 7 ∨ i = 8 ∨ i = 9 ∨ i = 10 ∨ i = 11 ∨ i = 12 ∨ i = 13 ∨ i = 14 ∨ i = 15 ∨ i = 16 ∨ i = 17 := by omega
              all_goals simp at hg
            case oo =>
              intro i oo hi qn a' wk hnn hj hb' hd
              obtain ⟨hlt1, rfl⟩ := Array.getElem?_eq_some_iff.1 hi
              have hlt' : i < 18 := hlt1
              clear hi
              obtain rfl | rfl | rfl | rfl | rfl | rfl | rfl | rfl | rfl | rfl | rfl | rfl | rfl | rfl | rfl | rfl | rfl | rfl : i = 0 ∨ i = 1 ∨ i = 2 ∨ i = 3 ∨ i = 4 ∨ i = 5 ∨ i = 6 ∨ i = 7 ∨ i = 8 ∨ i = 9 ∨ i = 10 ∨ i = 11 ∨ i = 12 ∨ i = 13 ∨ i = 14 ∨ i = 15 ∨ i = 16 ∨ i = 17 := by omega
              · exact iv_val (v := .slice (some ⟨wk.heap.size, 0, none⟩) 0 0) (w' := wk.alloc (.cells #[] 60)) (by simp [execOp, go_sem, Result.andThen]) ⟨_, rfl, hj.alloc hj.size _, .inr (.inl ((Below.refl _ _).alloc (Nat.le_refl _) _)), (show isEmpP _ _ _ from ⟨_, rfl, hj.size, heap_alloc_new _ _, Own.made _ hj.size⟩)⟩
              · have b0 : a'.eval (.tmp 0) = .slice a n c := hb' 0 (by rfl); have c0 := ev_get b0
                exact iv_val (v := .slice a n c) (by simp [execOp, b0]) ⟨_, rfl, hj, .inl rfl, rfl⟩
              · have b8 : a'.eval (.tmp 8) = .int .i64 k := hb' 8 (by rfl); have c8 := ev_get b8
                exact iv_val (v := .int .i64 k) (by simp [execOp, b8]) ⟨_, rfl, hj, .inl rfl, rfl⟩
              · have v1 : a'.eval (.tmp 78) = .slice a n c := hd ⟨1, .data⟩ (by simp) rfl (by intro j _ hc; revert hc; unfold paCons; simp; try omega); have u1 := ev_get v1
                have v2 : a'.eval (.tmp 79) = .int .i64 k := hd ⟨2, .data⟩ (by simp) rfl (by intro j _ hc; revert hc; unfold paCons; simp; try omega); have u2 := ev_get v2
                exact iv_val (v := .slice a k c) (by simp [execOp, u1, u2, hqc, go_sem, Result.andThen]) ⟨_, rfl, hj, .inl rfl, (show isRdP W0 (xs.take k) _ wk from hfr)⟩
              · have e0 : isEmpP W0.heap.size (a'.eval (.tmp 77)) wk := hd ⟨0, .data⟩ (by simp) rfl (by intro j _ hc; revert hc; unfold paCons; simp; try omega)
                obtain ⟨b0, v0, hb0, hh0, o0⟩ := e0
                have e3 : isRdP W0 (xs.take k) (a'.eval (.tmp 80)) wk := hd ⟨3, .data⟩ (by simp) rfl (by intro j _ hc; revert hc; unfold paCons; simp; try omega)
                obtain ⟨i0, hi0, hz0, hz1, hz2⟩ := info_parts info_pcO
                refine wp_cat (enc := encP) wk (.tmp 77) (.tmp 80) 23 rfl W0.heap.size 60 i0 _ 2 24 Tryz.underlying23 hi0 hz0 hz1 hz2 rfl (by decide) (a'.eval (.tmp 77)) (a'.eval (.tmp 80)) [] (xs.take k) rfl rfl o0 _ (Rd.below e3 hj (Nat.le_refl _)) encP_one (by simp; omega) (by decide) hj.size ?_
                intro v' w' ho hg hg'
                rw [v0] at hg
                exact ⟨_, rfl, hj.grown hg hj.size (fun g hg1 => by simp [Value.ownBlock] at hg1; omega), .inr (.inr (.inl ⟨rfl, b0, hh0, hg⟩)), (show isOwnP _ _ _ _ from ho)⟩
              · have b7 : a'.eval (.tmp 7) = .int .i64 p := hb' 7 (by rfl); have c7 := ev_get b7
                exact iv_val (v := .int .i64 p) (by simp [execOp, b7]) ⟨_, rfl, hj, .inl rfl, rfl⟩
              · have b1 : a'.eval (.tmp 1) = .string t := hb' 1 (by rfl); have c1 := ev_get b1
                exact iv_val (v := .string t) (by simp [execOp, b1]) ⟨_, rfl, hj, .inl rfl, rfl⟩
              · have v5 : a'.eval (.tmp 82) = .int .i64 p := hd ⟨5, .data⟩ (by simp) rfl (by intro j _ hc; revert hc; unfold paCons; simp; try omega); have u5 := ev_get v5
                have v6 : a'.eval (.tmp 83) = .string t := hd ⟨6, .data⟩ (by simp) rfl (by intro j _ hc; revert hc; unfold paCons; simp; try omega); have u6 := ev_get v6
                exact iv_val (v := .agg #[.int .i64 p, .string t]) (by simp [execOp, u5, u6, go_sem, Result.andThen]) ⟨_, rfl, hj, .inl rfl, rfl⟩
              · have v7 : a'.eval (.tmp 84) = .agg #[.int .i64 p, .string t] := hd ⟨7, .data⟩ (by simp) rfl (by intro j _ hc; revert hc; unfold paCons; simp; try omega); have u7 := ev_get v7
                exact iv_val (v := .slice (some ⟨wk.heap.size, 0, none⟩) 1 1) (w' := wk.alloc (.cells #[.int .i64 p, .string t] 60)) (by simp [execOp, u7, go_sem, Result.andThen]) ⟨_, rfl, hj.alloc hj.size _, .inr (.inl ((Below.refl _ _).alloc (Nat.le_refl _) _)), (show isLitP _ _ _ _ _ from ⟨_, rfl, hj.size, heap_alloc_new _ _⟩)⟩
              · have e4 : isOwnP W0.heap.size ([] ++ xs.take k) (a'.eval (.tmp 81)) wk := hd ⟨4, .data⟩ (by simp) rfl (by intro j _ hc; revert hc; unfold paCons; simp; try omega)
                have e8 : isLitP W0.heap.size p t (a'.eval (.tmp 85)) wk := hd ⟨8, .data⟩ (by simp) rfl (by intro j _ hc; revert hc; unfold paCons; simp; try omega)
                obtain ⟨b8, v8, hb8, hh8⟩ := e8
                obtain ⟨i0, hi0, hz0, hz1, hz2⟩ := info_parts info_pcO
                refine wp_cat (enc := encP) wk (.tmp 81) (.tmp 85) 23 rfl W0.heap.size 60 i0 _ 2 24 Tryz.underlying23 hi0 hz0 hz1 hz2 rfl (by decide) (a'.eval (.tmp 81)) (.slice (some ⟨b8, 0, none⟩) 1 1) ([] ++ xs.take k) [(⟨p, t⟩ : Pc)] rfl v8 e4 _ (lit_rdP hh8) encP_one (by simp; omega) (by decide) hj.size ?_
                intro v' w' ho hg hg'
                exact ⟨_, rfl, hj.grown hg hj.size (fun g hg1 => (Own.lt e4 g hg1).1), .inr (.inr (.inr (.inl rfl))), (show isOwnP _ _ _ _ from ho)⟩
              · have b0 : a'.eval (.tmp 0) = .slice a n c := hb' 0 (by rfl); have c0 := ev_get b0
                exact iv_val (v := .slice a n c) (by simp [execOp, b0]) ⟨_, rfl, hj, .inl rfl, rfl⟩
              · have b8 : a'.eval (.tmp 8) = .int .i64 k := hb' 8 (by rfl); have c8 := ev_get b8
                exact iv_val (v := .int .i64 k) (by simp [execOp, b8]) ⟨_, rfl, hj, .inl rfl, rfl⟩
              · have v10 : a'.eval (.tmp 87) = .slice a n c := hd ⟨10, .data⟩ (by simp) rfl (by intro j _ hc; revert hc; unfold paCons; simp; try omega); have u10 := ev_get v10
                have v11 : a'.eval (.tmp 88) = .int .i64 k := hd ⟨11, .data⟩ (by simp) rfl (by intro j _ hc; revert hc; unfold paCons; simp; try omega); have u11 := ev_get v11
                refine iv_val (v := .slice (if c = k then a else Option.map (fun (x : Addr) => x.add (k * 2)) a) (n - k) (c - k)) ?_ ⟨_, rfl, hj, .inl rfl, (show isRdP W0 (xs.drop k) _ wk from hbk)⟩
                cases a <;> simp [execOp, u10, u11, hq0, go_sem, Result.andThen]
              · have e9 : isOwnP W0.heap.size ([] ++ xs.take k ++ [(⟨p, t⟩ : Pc)]) (a'.eval (.tmp 86)) wk := hd ⟨9, .data⟩ (by simp) rfl (by intro j _ hc; revert hc; unfold paCons; simp; try omega)
                have e12 : isRdP W0 (xs.drop k) (a'.eval (.tmp 89)) wk := hd ⟨12, .data⟩ (by simp) rfl (by intro j _ hc; revert hc; unfold paCons; simp; try omega)
                obtain ⟨i0, hi0, hz0, hz1, hz2⟩ := info_parts info_pcO
                obtain ⟨g9, cs9, hg9, hh9, hs9⟩ := own_row e9 (by simp)
                refine wp_cat (enc := encP) wk (.tmp 86) (.tmp 89) 23 rfl W0.heap.size 60 i0 _ 2 24 Tryz.underlying23 hi0 hz0 hz1 hz2 rfl (by decide) (a'.eval (.tmp 86)) (a'.eval (.tmp 89)) ([] ++ xs.take k ++ [(⟨p, t⟩ : Pc)]) (xs.drop k) rfl rfl e9 _ (Rd.below e12 hj (Nat.le_refl _)) encP_one (by simp; omega) (by decide) hj.size ?_
                intro v' w' ho hg hg'
                exact ⟨_, rfl, hj.grown hg hj.size (fun g hg1 => (Own.lt e9 g hg1).1), .inr (.inr (.inr (.inr ⟨rfl, g9, cs9, hh9, hs9, hg9 ▸ hg⟩))), (show isOwnP _ _ _ _ from ho)⟩
              · have b7 : a'.eval (.tmp 7) = .int .i64 p := hb' 7 (by rfl); have c7 := ev_get b7
                exact iv_val (v := .int .i64 p) (by simp [execOp, b7]) ⟨_, rfl, hj, .inl rfl, rfl⟩
              · have e13 : isOwnP W0.heap.size ([] ++ xs.take k ++ [(⟨p, t⟩ : Pc)] ++ xs.drop k) (a'.eval (.tmp 90)) wk := hd ⟨13, .data⟩ (by simp) rfl (by intro j _ hc; revert hc; unfold paCons; simp; try omega)
                exact iv_val (v := a'.eval (.tmp 90)) (by simp [execOp]) ⟨_, rfl, hj, .inl rfl, e13⟩
              · have v14 : a'.eval (.tmp 91) = .int .i64 p := hd ⟨14, .data⟩ (by simp) rfl (by intro j _ hc; revert hc; unfold paCons; simp; try omega); have u14 := ev_get v14
                exact iv_val (v := .int .i64 p) (by simp [execOp, v14]) ⟨_, rfl, hj, .inl rfl, rfl⟩
              · exact iv_val (v := .bool true) (by simp [execOp, Act.eval]) ⟨_, rfl, hj, .inl rfl, rfl⟩
            case fin =>
              intro tm w4 hj hF
              have o15 : OwnP w4 W0.heap.size (tm.getD 4 undef) ([] ++ xs.take k ++ [(⟨p, t⟩ : Pc)] ++ xs.drop k) := hF 15 _ rfl (fun j => by unfold paCons; simp)
              have q16 : tm.getD 5 undef = .int .i64 p := hF 16 _ rfl (fun j => by unfold paCons; simp)
              have q17 : tm.getD 6 undef = .bool true := hF 17 _ rfl (fun j => by unfold paCons; simp)
              rw [List.nil_append, List.append_assoc] at o15
              clear hF
              simp only [refillL, List.setIfInBounds_toArray, List.set_cons_succ, List.set_cons_zero]
              obtain ⟨sv, hsv⟩ : ∃ sv, tm.getD 4 undef = sv := ⟨_, rfl⟩
              rw [hsv] at o15 ⊢
              rw [q16, q17]
              go_wp2
              go_ret3
              exact ⟨sv, (congrArg (fun z : List Pc × Int × Bool => Ending.returned (.tuple #[sv, .int .i64 z.2.1, .bool z.2.2])) HO.out.symm), by rw [HO.out, HI.out]; exact o15.less hB0, bl_then d0 hj⟩
end Go.Proofs.YtachfmlfmpaddaaGreatDoor
