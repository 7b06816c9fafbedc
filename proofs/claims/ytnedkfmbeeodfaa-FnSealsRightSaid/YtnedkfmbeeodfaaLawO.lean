/- Walks: the law on seals of versions. -/
import Derived.Test.YtnedkfmbeeodfaaDrawV
import Derived.Test.YtnedkfmbeeodfaaSealQ
import Derived.Test.YtnedkfmbeeodfaaSeals
import Derived.Test.YtnedkfmbeeodfaaInvG
namespace Go.Proofs.Ytnedkfmbeeodfaa
open Go.RowKit

def VersIn (w : World) (e : Ending) (w' : World) : Prop := ∃ (v : Value) (xs : List Ver), e = .returned v ∧ OwnV w' w.heap.size v xs ∧ xs.length ≤ 12 ∧ (∀ x ∈ xs, x.note.size ≤ 9) ∧ Below w.heap.size w w'

set_option maxHeartbeats 400000 in
theorem spec_DrawSealsOf_c (v : Value) (l : List Int) (w : World) (h : Rd encU 1 w w.heap.size v l) (hl : ∀ x ∈ l, 0 ≤ x ∧ x ≤ 255) :
    Calls Try.prog 40 #[v] w (VersIn w) := by
  go_enter Try.func40, Try.ntmps40
  go_wp2_with fail
  refine (spec_l20Open_c v l w h hl).mono ?_
  rintro e w1 ⟨l', rfl, r1, b1⟩
  clear h hl
  go_wp2_with fail
  refine (spec_l20Versions_c _ 0 l' 9 _ r1 (by omega) (by omega) (by omega)).mono ?_
  rintro e w2 ⟨x, xs, p2, rfl, o, hx, hn, _, _, g⟩
  have b2 := b1.grown g b1.size (by simp)
  have o' := o.less b1.size
  clear g r1 b1 o
  go_wp2
  go_ret
  exact ⟨_, _, rfl, o', hx, hn, b2⟩

theorem laws_sameInts_b' (v u : Value) (xs : List Int) (B B' : Nat) (w : World) (h : Ints w B v xs) (h' : Ints w B' u xs) :
    Calls Try.prog 32 #[v, u] w fun e w' => e = .returned (.bool true) ∧ Below w.heap.size w w' := by
  obtain ⟨n, hn⟩ : ∃ n, xs.length = n := ⟨_, rfl⟩
  obtain ⟨a, c, rfl, h1, h2, h3⟩ := h.ints hn
  obtain ⟨a', c', rfl, h1', h2', h3'⟩ := h'.ints hn
  clear hn h h'
  go_enter Try.func32, Try.ntmps32
  go_wp2
  go_loopw [5] (fun i wr => ∃ (k m : Nat), k ≤ n ∧ i = .int .i64 k ∧ wr = w.drewN m) (fun i _ => n - (intOf i).toNat)
  case atStart => exact ⟨0, 0, Nat.zero_le _, rfl, rfl⟩
  case round =>
    obtain ⟨k, m, hk, rfl, rfl⟩ := hrel
    by_cases hlt : k < n
    · obtain ⟨b, o, x, rfl, hb, hx, hc⟩ := h3 k hlt
      obtain ⟨b', o', y, rfl, hb', hy, hc'⟩ := h3' k hlt
      obtain rfl : x = y := by have := hx.out.symm.trans hy.out; simpa using this
      clear h3 h3' hx hy
      go_wp2
      go_quiet (fail)
      go_wp2
      go_roundw
      case rel => exact ⟨k + 1, _, by omega, by go_num, rfl⟩
      case measure => simp [intOf]; omega
    · go_wp2
      go_ret
      exact ⟨rfl, bl_drewN (Below.refl _ _) m⟩

/-- A beginning of a row of versions. -/
theorem Rd.frontV {w : World} {B n k c : Nat} {a : Option Addr} {xs : List Ver} (h : Vers w B (.slice a n c) xs) (hk : k ≤ n) : Vers w B (.slice a k c) (xs.take k) := by
  obtain ⟨a', c', he, g1, g2, g3, g4⟩ := h
  simp only [Value.slice.injEq] at he
  obtain ⟨rfl, hn, rfl⟩ := he
  have hlen : (xs.take k).length = k := by simp; omega
  have hfl : ∀ l : List Ver, (l.flatMap encV).length = l.length * 3 := by
    intro l
    induction l with
    | nil => rfl
    | cons x r ih => rw [List.flatMap_cons, List.length_append, ih]; simp; omega
  refine ⟨a, c, by rw [hlen], by omega, g2, by rw [hfl], fun hk0 => ?_⟩
  obtain ⟨b, o, rfl, hb, hat⟩ := g4 (by omega)
  refine ⟨b, o, rfl, hb, fun j u hu => hat j u ?_⟩
  have e : xs.flatMap encV = (xs.take k).flatMap encV ++ (xs.drop k).flatMap encV := by rw [← List.flatMap_append, List.take_append_drop]
  rw [e, List.getElem?_append_left (List.getElem?_eq_some_iff.1 hu).1]
  exact hu
def isOwnN (B : Nat) (xs : List Int) : Value → World → Prop := fun v w => OwnI w B v xs
def loF (B : Nat) (x li xm lm : Value) (n m : Nat) (R : List Int) : List (Value → World → Prop) :=
  [isV x, isV (.int .i64 n), isV li, isV (.int .i64 n), isV (.bool true), isV (.bool true), isV li, isV li, isV (.int .i64 n), isV (.int .i64 m), isV lm, isOwnN B R, isV x, isV x, isV (.int .i64 n), isV (.int .i64 m), isV xm, isV (.bool true), isV (.bool true), isV (.bool true)]
theorem loF_gr {B : Nat} {x li xm lm : Value} {n m : Nat} {R : List Int} : ∀ f ∈ loF B x li xm lm n m R, Grow f := by
  intro f hf
  simp only [loF, List.mem_cons, List.not_mem_nil, or_false] at hf
  rcases hf with rfl | rfl | rfl | rfl | rfl | rfl | rfl | rfl | rfl | rfl | rfl | rfl | rfl | rfl | rfl | rfl | rfl | rfl | rfl | rfl
  all_goals first | exact isV_gr _ | exact fun v w w' hb h => Own.on h hb

theorem own_root {w : World} {B g n c : Nat} {ra ea : Int} {ta : ByteArray} {r : List Ver} {q : Int} (h : OwnV w B (.slice (some ⟨g, 0, none⟩) n c) (⟨ra, ea, ta⟩ :: r)) (hn : ((⟨ra, ea, ta⟩ : Ver) :: r).length = n) :
    OwnV (w.setCell ⟨g, 0, none⟩ (.int .i64 q)) B (.slice (some ⟨g, 0, none⟩) n c) (⟨q, ea, ta⟩ :: r) ∧ w.grownBy (w.setCell ⟨g, 0, none⟩ (.int .i64 q)) (some g) ∧ w.cell? ⟨g, 0, none⟩ = some (.int .i64 ra) ∧ w.frozen? ⟨g, 0, none⟩ = false := by
  have h' : w.ownsRow B 52 3 (.slice (some ⟨g, 0, none⟩) n c) n (((⟨ra, ea, ta⟩ : Ver) :: r).flatMap encV) := by have := h; unfold OwnV Own at this; rwa [hn] at this
  have hs := h'.stored 0 (.int .i64 q)
  refine ⟨?_, hs.2, (h'.cellAt 0 (by have : 0 < n := by rw [← hn]; simp
                                     omega)).trans rfl, h'.frozenAt 0⟩
  have h3 := hs.1
  unfold OwnV Own
  rw [show ((⟨q, ea, ta⟩ : Ver) :: r).length = n by rw [← hn]; simp]
  exact h3

theorem own_slice {w : World} {B n : Nat} {v : Value} {x : Ver} {r : List Ver} (h : OwnV w B v (x :: r)) (hn : (x :: r).length = n) : ∃ g cap, v = .slice (some ⟨g, 0, none⟩) n cap ∧ B ≤ g := by
  rcases h.2 with ⟨_, hz⟩ | ⟨g, cap, cur, hv, hbg, _⟩
  · simp at hz
  · exact ⟨g, cap, by rw [hv, hn], hbg⟩

set_option maxHeartbeats 2000000 in
theorem laws_FnSealsOf_c (v : Value) (l : List Int) (w : World) (h : Rd encU 1 w w.heap.size v l) (hl : ∀ x ∈ l, 0 ≤ x ∧ x ≤ 255) :
    Calls Try.prog 11 #[v] w fun e w' => e = .returned (.bool true) ∧ Below w.heap.size w w' := by
  obtain ⟨n0, hn0⟩ : ∃ n, l.length = n := ⟨_, rfl⟩
  obtain ⟨a, c, rfl, _, _, _⟩ := Rd.openN h (fun _ => rfl) hn0
  by_cases hbig : 1048576 < n0
  · go_enter Try.func11, Try.ntmps11
    go_wp2
    go_ret
    exact ⟨rfl, Below.refl _ _⟩
  · go_enter Try.func11, Try.ntmps11
    go_wp2_with fail
    refine (spec_DrawSealsOf_c _ l w h hl).mono ?_
    rintro e w1 ⟨lv, xs, rfl, o1, hlen, hnote, b1⟩
    clear h hl hn0
    obtain ⟨n, hn⟩ : ∃ n, xs.length = n := ⟨_, rfl⟩
    obtain ⟨la, lc, rfl, hlc, _, _⟩ := (Rd.of_own o1).vers hn
    have HX : Hid (∀ x ∈ xs, x.note.size ≤ 1048576) := fun x hx => by have := hnote x hx; omega
    obtain ⟨R, hR⟩ : ∃ R, sealsOf xs = R := ⟨_, rfl⟩
    obtain ⟨rl, hrl⟩ : ∃ rl, R.length = rl := ⟨_, rfl⟩
    go_wp2_with fail
    refine (impl_SealsOf_c _ xs _ (Rd.of_own o1)).mono ?_
    rw [hR]
    rintro e w2 ⟨x2, rfl, o2, b2⟩
    obtain ⟨xa, xc, rfl, hxc, _, _⟩ := (Rd.of_own o2).ints hrl
    have c2 := bl_then b1 b2
    have p2 := o1.on b2
    go_wp2_with fail
    refine (spec_SealsOf_c _ xs _ (Rd.of_own p2) HX.out (by omega)).mono ?_
    rw [hR]
    rintro e w3 ⟨x3, rfl, o3, b3⟩
    have c3 := bl_then c2 b3
    have p3 := p2.on b3
    have q3 := o2.on b3
    go_wp2_with fail
    refine (laws_sameInts_b' _ _ R _ _ _ (Rd.of_own q3) (Rd.of_own o3)).mono ?_
    rintro e w4 ⟨rfl, b4⟩
    have c4 := bl_then c3 b4
    have p4 := p3.on b4
    have q4 := q3.on b4
    clear o1 o2 o3 p2 p3 q3 b1 b2 b3 b4 c2 c3
    by_cases h0 : rl = 0
    · subst h0
      go_wp2_with (go_at_call 21; refine (laws_alive_c _).mono ?_; rintro e w' ⟨rfl, rfl⟩)
      go_ret
      exact ⟨by first | rfl | simp, c4⟩
    · have hb0 : ((rl : Int) == 0) = false := beq_eq_false_iff_ne.2 (by omega)
      have hok : vsOk xs = true := by
        cases hk : vsOk xs
        · rw [seals_off hk] at hR; subst hR; simp at hrl; omega
        · rfl
      have hrn : rl = n := by rw [← hrl, ← hR, seals_on hok, sealsFrom_len, hn]
      subst hrn
      obtain ⟨v0, r, rfl⟩ : ∃ v0 r, xs = v0 :: r := by cases xs with | nil => simp at hn; omega | cons v0 r => exact ⟨v0, r, rfl⟩
      have hv0 : pv v0.root = true := by
        have := (vs_in hok).2
        simp only [vsFrom, Bool.and_eq_true, vOk] at this
        exact this.1.1.1
      have hne := emod_succ' hv0
      obtain ⟨q, hq⟩ : ∃ q, (v0.root + 1) % 16777213 = q := ⟨_, rfl⟩
      rw [hq] at hne
      obtain ⟨r0, r1⟩ := pv_iff.1 hv0
      obtain ⟨hok2, hdiff⟩ := seals_root hok hne.1 hne.2
      obtain ⟨i0, hi0, hz0, hz1, hz2⟩ := info_parts info_ver'
      have hmk : OwnV (w4.alloc (.cells #[] 52)) w4.heap.size (.slice (some ⟨w4.heap.size, 0, none⟩) 0 0) [] := Own.made w4 (Nat.le_refl _)
      obtain ⟨_, _, hle, _, _, hget⟩ := (Rd.of_own p4).vers hn
      simp only [Value.slice.injEq] at hle
      obtain ⟨hla, _, hlcE⟩ := hle
      subst hla
      subst hlcE
      obtain ⟨b, o, ra, ea, ta, hlaa, hbl, hx0, k0, _, _⟩ := hget 0 (by omega)
      subst hlaa
      obtain rfl : v0 = ⟨ra, ea, ta⟩ := by have := hx0.out; simpa using this
      simp only [Nat.zero_mul, Nat.add_zero] at k0
      have HD := hid hdiff
      have HK := hid hok
      have HK2 := hid hok2
      have HR := hid hR
      have HN := hid hn
      have HRL := hid hrl
      have HQ := hid hq
      clear hget hx0 hdiff hok hok2 hR hn hrl hne hv0 hnote
      simp only at hq r0 r1
      have hq0 : 0 < rl := by omega
      have hq1 : (0 : Int) < rl := by omega
      have rdl4 := Rd.of_own p4
      have rdx4 := Rd.of_own q4
      have hbA : Below w4.heap.size w4 (w4.alloc (.cells #[] 52)) := (Below.refl _ _).alloc (Nat.le_refl _) _
      have hlen12 := hlen
      rw [HN.out] at hlen12
      have HLEN := hid hlen
      clear p4 q4 hlen
      go_wp2_with (at_builtin; refine wpList_cat (enc := encV) (w0 := w4.alloc (.cells #[] 52)) rfl _ _ 57 rfl w4.heap.size w4.heap.size 52 i0 _ 3 32 Try.underlying57 hi0 hz0 hz1 hz2 rfl (by decide) _ _ [] (⟨ra, ea, ta⟩ :: r) hmk _ (rdl4.below hbA (Nat.le_refl _)) (Below.refl _ _) (by simp) (Nat.le_refl _) rfl rfl (by simp [Value.oneCell']) (by have h1 := HN.out; simp only [List.length_nil]; omega) (by decide) ?_; intro v' w5 o5 hb5 hB5 hg5; (rw [List.nil_append] at o5); have hb45 := hbA.trans hb5; (obtain ⟨g, cap, rfl, hgB⟩ := own_slice o5 HN.out); have k5 := (hb45.cell (p := ⟨b, o, none⟩) hbl).trans k0; (obtain ⟨o6, g6, k6, f6⟩ := own_root (q := q) o5 HN.out))
      have c5 := c4.trans (hb45.mono c4.size)
      have rdl5 := rdl4.below hb45 (Nat.le_refl _)
      have rdx5 := rdx4.below hb45 (Nat.le_refl _)
      have hs5 := hb45.size
      have O6 := hid o6
      have c6 : Below w.heap.size w _ := c5.grown g6 c5.size (fun x hx => by simp at hx; have := c4.size; omega)
      have C6 := hid c6
      have RL6 := hid (rdl5.far hs5 g6 (fun x hx => by simp at hx; omega))
      have RX6 := hid (rdx5.far hs5 g6 (fun x hx => by simp at hx; omega))
      have hz6 : w4.heap.size ≤ (w5.setCell ⟨g, 0, none⟩ (.int .i64 q)).heap.size := by simp; exact hs5
      have HZ6 := hid hz6
      clear o5 o6 c6 rdl4 rdx4 rdl5 rdx5 hb45 hb5 hg5 hbA hmk g6 c5 hz6 k0
      obtain ⟨R2, hR2⟩ : ∃ R2, sealsOf ((⟨q, ea, ta⟩ : Ver) :: r) = R2 := ⟨_, rfl⟩
      have HR2 := hid hR2
      have hr2l : R2.length = rl := by rw [← hR2, seals_on HK2.out, sealsFrom_len]; have := HN.out; simpa using this
      have HR2L := hid hr2l
      clear hR2 hr2l
      refine (impl_SealsOf_c _ (⟨q, ea, ta⟩ :: r) _ (Rd.of_own O6.out)).mono ?_
      rw [HR2.out]
      rintro e w7 ⟨y7, rfl, o7, b7⟩
      have c7 := C6.out.trans (b7.mono C6.out.size)
      have rl7 := RL6.out.below b7 HZ6.out
      have rx7 := RX6.out.below b7 HZ6.out
      have hs7 := Nat.le_trans HZ6.out b7.size
      obtain ⟨ya, yc, rfl, _, _, hy⟩ := (Rd.of_own o7).ints HR2L.out
      obtain ⟨_, _, hxe, _, _, hxg⟩ := rx7.ints HRL.out
      simp only [Value.slice.injEq] at hxe
      obtain ⟨hxa, _, hxcE⟩ := hxe
      subst hxa
      subst hxcE
      clear o7 b7 k5 k6 f6
      go_wp2
      go_loopw [7] (fun i wr => ∃ k z : Nat, k ≤ rl ∧ i = .int .i64 k ∧ wr = w7.drewN z) (fun i _ => rl - (intOf i).toNat)
      case atStart => exact ⟨0, 0, Nat.zero_le _, rfl, rfl⟩
      case round =>
        obtain ⟨k, z, hk, rfl, rfl⟩ := hrel
        by_cases hlt : k < rl
        · obtain ⟨xb, xo, xv, rfl, hxb, hxv, hxc'⟩ := hxg k hlt
          obtain ⟨yb, yo, yv, rfl, hyb, hyv, hyc'⟩ := hy k hlt
          have hne := HD.out k xv yv (by rw [HR.out]; exact hxv.out) (by rw [HR2.out]; exact hyv.out)
          have hbe : (xv == yv) = false := by simp [hne]
          have hd : decide ((rl : Int) ≤ (k : Int)) = false := by simp; omega
          have hd2 : decide (rl ≤ k) = false := by simp; omega
          clear hxg hy hne hxv hyv
          go_wp2
          go_quiet (fail)
          go_wp2
          go_roundw
          case rel => exact ⟨k + 1, _, by omega, by go_num, rfl⟩
          case measure => simp [intOf]; omega
        · clear hxg hy
          obtain ⟨m, hm⟩ : ∃ m : Nat, rl = m + 1 := ⟨rl - 1, by omega⟩
          have hw : IntKind.i64.wrap ((rl : Int) - 1) = m := by rw [IntWalk.i64_in _ (by omega)]; omega
          have hml : (m : Int) ≤ lc := by omega
          have hmx : (m : Int) ≤ xc := by omega
          have hmr : m ≤ rl := by omega
          obtain ⟨xs, hxs⟩ : ∃ xs, xs = ((⟨ra, ea, ta⟩ : Ver) :: r) := ⟨_, rfl⟩
          obtain ⟨R', hR'⟩ : ∃ R', R' = R.take m := ⟨_, rfl⟩
          have hst := hid (show sealsOf (xs.take m) = R' by rw [hxs, seals_take m HK.out, HR.out, hR'])
          have hrl := (Rd.frontV rl7 hmr).more hs7
          have hrx := (Rd.front rx7 hmr).more hs7
          rw [← hR'] at hrx
          rw [← hxs] at hrl
          obtain ⟨wr, hwr⟩ : ∃ wr, wr = w7.drewN z := ⟨_, rfl⟩
          have hrl0 : Vers wr wr.heap.size (.slice (some ⟨b, o, none⟩) m lc) (xs.take m) := by rw [hwr]; exact hrl.drewN z
          have hrx0 : Ints wr wr.heap.size (.slice xa m xc) R' := by rw [hwr]; exact hrx.drewN z
          have cw : Below w.heap.size w wr := by rw [hwr]; exact bl_drewN c7 z
          clear hrl hrx
          have hrl := hrl0
          have hrx := hrx0
          have hRL : R'.length = m := by rw [hR']; simp; have := HRL.out; omega
          clear hrl0 hrx0 rl7 rx7 hs7 c7
          have hdl : decide ((rl : Int) ≤ (k : Int)) = true := by simp; omega
          rw [← hwr]
          clear hxs hR' hwr
          clear HX HQ hgB HLEN HN HK HK2 HD O6 C6 RL6 RX6 HZ6 HR2 HR2L HR HRL
          go_wp2
          refine wp_region_inv3g rfl (by kernel_rfl) (by kernel_rfl) (by kernel_rfl) (by kernel_rfl) (by simp) (fun _ w' => Below wr.heap.size wr w') (fun w' w'' => ∀ i v, fact (loF wr.heap.size (.slice xa rl xc) (.slice (some ⟨b, o, none⟩) rl lc) (.slice xa m xc) (.slice (some ⟨b, o, none⟩) m lc) rl m R') i v w' → fact (loF wr.heap.size (.slice xa rl xc) (.slice (some ⟨b, o, none⟩) rl lc) (.slice xa m xc) (.slice (some ⟨b, o, none⟩) m lc) rl m R') i v w'') (fact (loF wr.heap.size (.slice xa rl xc) (.slice (some ⟨b, o, none⟩) rl lc) (.slice xa m xc) (.slice (some ⟨b, o, none⟩) m lc) rl m R')) (Below.refl _ _).drew (fun i v w' w'' hS hf => hS i v hf) ?grd ?oo ?fin
          case grd =>
            intro i oo d bb hi hg v w' hf
            obtain ⟨hlt1, rfl⟩ := Array.getElem?_eq_some_iff.1 hi
            have hlt' : i < 20 := hlt1
            clear hi
            obtain rfl | rfl | rfl | rfl | rfl | rfl | rfl | rfl | rfl | rfl | rfl | rfl | rfl | rfl | rfl | rfl | rfl | rfl | rfl | rfl : i = 0 ∨ i = 1 ∨ i = 2 ∨ i = 3 ∨ i = 4 ∨ i = 5 ∨ i = 6 ∨ i = 7 ∨ i = 8 ∨ i = 9 ∨ i = 10 ∨ i = 11 ∨ i = 12 ∨ i = 13 ∨ i = 14 ∨ i = 15 ∨ i = 16 ∨ i = 17 ∨ i = 18 ∨ i = 19 := by omega
            all_goals first | (simp at hg; done) | (simp at hg; obtain ⟨rfl, rfl⟩ := hg; exact hf)
          case oo =>
            intro i oo hi qn a' wk hnn hj hb' hd
            obtain ⟨hlt1, rfl⟩ := Array.getElem?_eq_some_iff.1 hi
            have hlt' : i < 20 := hlt1
            clear hi
            obtain rfl | rfl | rfl | rfl | rfl | rfl | rfl | rfl | rfl | rfl | rfl | rfl | rfl | rfl | rfl | rfl | rfl | rfl | rfl | rfl : i = 0 ∨ i = 1 ∨ i = 2 ∨ i = 3 ∨ i = 4 ∨ i = 5 ∨ i = 6 ∨ i = 7 ∨ i = 8 ∨ i = 9 ∨ i = 10 ∨ i = 11 ∨ i = 12 ∨ i = 13 ∨ i = 14 ∨ i = 15 ∨ i = 16 ∨ i = 17 ∨ i = 18 ∨ i = 19 := by omega
            · have b4 : a'.eval (.tmp 4) = .slice xa rl xc := hb' 4 (by rfl); have c4 := ev_get b4
              exact iv_val (v := .slice xa rl xc) (by simp [execOp, b4]) ⟨_, rfl, hj, (fun _ _ h => h), rfl⟩
            · have v0 : a'.eval (.tmp 59) = .slice xa rl xc := hd ⟨0, .data⟩ (by simp) rfl; have u0 := ev_get v0
              exact iv_val (v := .int .i64 rl) (by simp [execOp, u0, go_sem, Result.andThen]) ⟨_, rfl, hj, (fun _ _ h => h), rfl⟩
            · have b3 : a'.eval (.tmp 3) = .slice (some ⟨b, o, none⟩) rl lc := hb' 3 (by rfl); have c3 := ev_get b3
              exact iv_val (v := .slice (some ⟨b, o, none⟩) rl lc) (by simp [execOp, b3]) ⟨_, rfl, hj, (fun _ _ h => h), rfl⟩
            · have v2 : a'.eval (.tmp 61) = .slice (some ⟨b, o, none⟩) rl lc := hd ⟨2, .data⟩ (by simp) rfl; have u2 := ev_get v2
              exact iv_val (v := .int .i64 rl) (by simp [execOp, u2, go_sem, Result.andThen]) ⟨_, rfl, hj, (fun _ _ h => h), rfl⟩
            · have v1 : a'.eval (.tmp 60) = .int .i64 rl := hd ⟨1, .data⟩ (by simp) rfl; have u1 := ev_get v1
              have v3 : a'.eval (.tmp 62) = .int .i64 rl := hd ⟨3, .data⟩ (by simp) rfl; have u3 := ev_get v3
              exact iv_val (v := .bool true) (by simp [execOp, u1, u3, go_sem]) ⟨_, rfl, hj, (fun _ _ h => h), rfl⟩
            · have v4 : a'.eval (.tmp 63) = .bool true := hd ⟨4, .data⟩ (by simp) rfl; have u4 := ev_get v4
              exact iv_val (v := .bool true) (by simp [execOp, v4]) ⟨_, rfl, hj, (fun _ _ h => h), rfl⟩
            · have b3 : a'.eval (.tmp 3) = .slice (some ⟨b, o, none⟩) rl lc := hb' 3 (by rfl); have c3 := ev_get b3
              exact iv_val (v := .slice (some ⟨b, o, none⟩) rl lc) (by simp [execOp, b3]) ⟨_, rfl, hj, (fun _ _ h => h), rfl⟩
            · have b3 : a'.eval (.tmp 3) = .slice (some ⟨b, o, none⟩) rl lc := hb' 3 (by rfl); have c3 := ev_get b3
              exact iv_val (v := .slice (some ⟨b, o, none⟩) rl lc) (by simp [execOp, b3]) ⟨_, rfl, hj, (fun _ _ h => h), rfl⟩
            · have v7 : a'.eval (.tmp 66) = .slice (some ⟨b, o, none⟩) rl lc := hd ⟨7, .data⟩ (by simp) rfl; have u7 := ev_get v7
              exact iv_val (v := .int .i64 rl) (by simp [execOp, u7, go_sem, Result.andThen]) ⟨_, rfl, hj, (fun _ _ h => h), rfl⟩
            · have v8 : a'.eval (.tmp 67) = .int .i64 rl := hd ⟨8, .data⟩ (by simp) rfl; have u8 := ev_get v8
              exact iv_val (v := .int .i64 m) (by simp [execOp, u8, hw, go_sem]) ⟨_, rfl, hj, (fun _ _ h => h), rfl⟩
            · have v6 : a'.eval (.tmp 65) = .slice (some ⟨b, o, none⟩) rl lc := hd ⟨6, .data⟩ (by simp) rfl; have u6 := ev_get v6
              have v9 : a'.eval (.tmp 68) = .int .i64 m := hd ⟨9, .data⟩ (by simp) rfl; have u9 := ev_get v9
              have hcap : (m : Int) ≤ lc := hml
              exact iv_val (v := .slice (some ⟨b, o, none⟩) m lc) (by simp [execOp, u6, u9, hcap, go_sem, Result.andThen]) ⟨_, rfl, hj, (fun _ _ h => h), rfl⟩
            · have v10 : a'.eval (.tmp 69) = .slice (some ⟨b, o, none⟩) m lc := hd ⟨10, .data⟩ (by simp) rfl; have u10 := ev_get v10
              refine iv_enter (f := 41) (args := #[.slice (some ⟨b, o, none⟩) m lc]) (by simp [execOp, u10, go_sem]) ?_
              refine (impl_SealsOf_c _ (xs.take m) wk (Rd.on hrl hj)).mono ?_
              rw [hst.out]
              rintro e w5 ⟨v', rfl, o5, b5⟩
              have hs := hj.size
              exact ⟨_, rfl, _, rfl, hj.trans (b5.mono hj.size), (fun i v h => fact_gr loF_gr i v _ _ b5 h), (show isOwnN wr.heap.size R' _ _ from o5.less hs)⟩
            · have b4 : a'.eval (.tmp 4) = .slice xa rl xc := hb' 4 (by rfl); have c4 := ev_get b4
              exact iv_val (v := .slice xa rl xc) (by simp [execOp, b4]) ⟨_, rfl, hj, (fun _ _ h => h), rfl⟩
            · have b4 : a'.eval (.tmp 4) = .slice xa rl xc := hb' 4 (by rfl); have c4 := ev_get b4
              exact iv_val (v := .slice xa rl xc) (by simp [execOp, b4]) ⟨_, rfl, hj, (fun _ _ h => h), rfl⟩
            · have v13 : a'.eval (.tmp 72) = .slice xa rl xc := hd ⟨13, .data⟩ (by simp) rfl; have u13 := ev_get v13
              exact iv_val (v := .int .i64 rl) (by simp [execOp, u13, go_sem, Result.andThen]) ⟨_, rfl, hj, (fun _ _ h => h), rfl⟩
            · have v14 : a'.eval (.tmp 73) = .int .i64 rl := hd ⟨14, .data⟩ (by simp) rfl; have u14 := ev_get v14
              exact iv_val (v := .int .i64 m) (by simp [execOp, u14, hw, go_sem]) ⟨_, rfl, hj, (fun _ _ h => h), rfl⟩
            · have v12 : a'.eval (.tmp 71) = .slice xa rl xc := hd ⟨12, .data⟩ (by simp) rfl; have u12 := ev_get v12
              have v15 : a'.eval (.tmp 74) = .int .i64 m := hd ⟨15, .data⟩ (by simp) rfl; have u15 := ev_get v15
              have hcap : (m : Int) ≤ xc := hmx
              exact iv_val (v := .slice xa m xc) (by simp [execOp, u12, u15, hcap, go_sem, Result.andThen]) ⟨_, rfl, hj, (fun _ _ h => h), rfl⟩
            · have e11 : isOwnN wr.heap.size R' (a'.eval (.tmp 70)) wk := hd ⟨11, .data⟩ (by simp) rfl
              have v16 : a'.eval (.tmp 75) = .slice xa m xc := hd ⟨16, .data⟩ (by simp) rfl; have u16 := ev_get v16
              obtain ⟨va, vc, v11, _, _, _⟩ := (Rd.of_own e11).ints rfl
              have u11 := ev_get v11
              rw [v11] at e11
              refine iv_enter (f := 32) (args := #[.slice va R'.length vc, .slice xa m xc]) (by simp [execOp, u11, u16, go_sem]) ?_
              refine (laws_sameInts_b' _ _ R' _ _ wk (Rd.of_own e11) (Rd.on hrx hj)).mono ?_
              rintro e w5 ⟨rfl, b5⟩
              exact ⟨_, rfl, _, rfl, hj.trans (b5.mono hj.size), (fun i v h => fact_gr loF_gr i v _ _ b5 h), rfl⟩
            · have v5 : a'.eval (.tmp 64) = .bool true := hd ⟨5, .data⟩ (by simp) rfl; have u5 := ev_get v5
              have v17 : a'.eval (.tmp 76) = .bool true := hd ⟨17, .data⟩ (by simp) rfl; have u17 := ev_get v17
              exact iv_val (v := .bool true) (by simp [execOp, u5, u17, go_sem]) ⟨_, rfl, hj, (fun _ _ h => h), rfl⟩
            · have v18 : a'.eval (.tmp 77) = .bool true := hd ⟨18, .data⟩ (by simp) rfl; have u18 := ev_get v18
              exact iv_val (v := .bool true) (by simp [execOp, v18]) ⟨_, rfl, hj, (fun _ _ h => h), rfl⟩
          case fin =>
            intro tm w20 hj hF
            have q2 : tm.getD 2 undef = .bool true := hF 19 _ rfl
            clear hF
            simp only [refillL, List.setIfInBounds_toArray, List.set_cons_succ, List.set_cons_zero]
            rw [q2]
            go_wp2
            go_ret
            exact ⟨rfl, cw.trans (hj.mono cw.size)⟩

end Go.Proofs.Ytnedkfmbeeodfaa
