/- Walks: the prints that folders name; those that are missing. -/
import Derived.Test.YtkfkcbceoekgjaaDoorReadS
import Derived.Test.YtkfkcbceoekgjaaDoorWant
namespace Go.Proofs.YtkfkcbceoekgjaaDoor
open Go.RowKit

noncomputable def prs (p : Pc) : List Int := (entsOf (bs p.text)).map (·.print)
noncomputable def named (l : List Pc) : List Int := l.flatMap prs
theorem named_succ {l : List Pc} {k : Nat} {x : Pc} (h : l[k]? = some x) : named (l.take (k + 1)) = named (l.take k) ++ prs x := by
  unfold named; rw [take_snoc' h]; simp
theorem entsOf_len (l : List UInt8) : (entsOf l).length ≤ 3 := by
  unfold entsOf
  cases h : readFolder l with
  | none => simp
  | some es => exact (ents_in (readFolder_some h).1).1
theorem named_len : ∀ l : List Pc, (named l).length ≤ 3 * l.length
  | [] => by simp [named]
  | p :: r => by
    have h1 := named_len r
    have h2 := entsOf_len (bs p.text)
    unfold named at h1 ⊢
    simp only [List.flatMap_cons, List.length_append, List.length_cons]
    simp only [prs, List.length_map]
    omega
noncomputable def missingOf (l : List Pc) : List Int := wantedOf l (named l)

set_option maxHeartbeats 2000000 in
set_option maxRecDepth 100000 in
theorem impl_namedPrints_c (v : Value) (xs : List Pc) (w : World) (h : Pcs w w.heap.size v xs) (hx0 : ∀ x ∈ xs, x.text.size ≤ 1000000) (hl : xs.length ≤ 1048576) (hg : Glob w) :
    Calls Tryd.prog 28 #[v] w fun e w' => ∃ v', e = .returned v' ∧ OwnI w' w.heap.size v' (named xs) ∧ Below w.heap.size w w' := by
  obtain ⟨n, hn⟩ : ∃ n, xs.length = n := ⟨_, rfl⟩
  obtain ⟨a, c, rfl, h1, h2, h3⟩ := h.pcs hn
  rw [hn] at hl
  have HN := hid hn
  have HX := hid hx0
  have HG := hid hg
  clear hn h hx0 hg
  go_enter Tryd.func28, Tryd.ntmps28
  go_wp2
  go_loopw [3, 12] (fun pv i wr => ∃ (k : Nat) (acc : List Int), k ≤ n ∧ i = .int .i64 k ∧ OwnI wr w.heap.size pv acc ∧ Hid (acc = named (xs.take k)) ∧ acc.length ≤ 3 * k ∧ Below w.heap.size w wr) (fun _ i _ => n - (intOf i).toNat)
  case atStart => exact ⟨0, [], Nat.zero_le _, rfl, Own.nil_, rfl, by simp, Below.refl _ _⟩
  case round =>
    obtain ⟨k, acc, hk, rfl, hown, hacc, hlen, hb⟩ := hrel
    by_cases hlt : k < n
    · obtain ⟨b, o, r, t, rfl, hbl, hx, k0, k1⟩ := h3 k hlt
      have j0 := (hb.cell (p := ⟨b, o + k * 2, none⟩) hbl).trans k0
      have j1 := (hb.cell (p := ⟨b, o + k * 2 + 1, none⟩) hbl).trans k1
      have HT := hid (HX.out _ (List.mem_of_getElem? hx.out))
      have HA := hid (named_succ hx.out)
      obtain ⟨W1, hW1⟩ : ∃ W1, W1 = wr.alloc (.cells #[.int .i64 r, .string t] 43) := ⟨_, rfl⟩
      have hb1 : Below w.heap.size w W1 := by rw [hW1]; exact hb.alloc hb.size _
      have hown1 : OwnI W1 w.heap.size u3 acc := by rw [hW1]; exact hown.alloc _
      obtain ⟨es, hes⟩ : ∃ es, entsOf (bs t) = es := ⟨_, rfl⟩
      have HES := hid hes
      have hm3 := entsOf_len (bs t)
      rw [hes] at hm3
      obtain ⟨m, hm⟩ : ∃ m, es.length = m := ⟨_, rfl⟩
      have HM := hid hm
      have hm4 : m ≤ 3 := by omega
      clear k0 k1 h3 hes hm3
      go_wp2_with fail
      rw [← hW1]
      refine (impl_ReadFolder_c t _ (Nat.le_trans HT.out (by omega)) (HG.out.on hb1)).mono ?_
      rw [HES.out]
      rintro e w4 ⟨lv, rfl, o4, b4⟩
      have hown4 := hown1.on b4
      have hb4 := bl_then hb1 b4
      have hlt4 := hid o4.lt
      have hpb : Hid (∀ g, Value.ownBlock u3 = some g → g < W1.heap.size) := hid fun g hg => (hown1.lt g hg).2
      have hsz4 := b4.size
      obtain ⟨la, lc, rfl, _, _, _⟩ := (Rd.of_own o4).ents hm
      clear hW1 b4 hm
      go_wp2
      go_loopw [3, 24] (fun pv i wr2 => ∃ (j : Nat) (acc2 : List Int), j ≤ m ∧ i = .int .i64 j ∧ OwnI wr2 w.heap.size pv acc2 ∧ Hid (acc2 = acc ++ (es.map (·.print)).take j) ∧ acc2.length ≤ 3 * k + j ∧ OwnE wr2 W1.heap.size (.slice la m lc) es ∧ Hid (∀ g, pv.ownBlock = some g → g < W1.heap.size ∨ w4.heap.size ≤ g) ∧ Below w.heap.size w wr2 ∧ w4.heap.size ≤ wr2.heap.size) (fun _ i _ => m - (intOf i).toNat)
      case atStart => exact ⟨0, acc, Nat.zero_le _, rfl, hown4, by simp [Hid], by omega, o4, hid fun g hg => .inl (hpb.out g hg), hb4, Nat.le_refl _⟩
      case round =>
        obtain ⟨j, acc2, hj, rfl, hown2, hacc2, hlen2, hol, hpb2, hb2, hsz2⟩ := hrel
        clear o4 hown4 hb4
        by_cases hjm : j < m
        · obtain ⟨_, _, hv, _, _, hcs⟩ := (Rd.of_own hol).ents HM.out
          simp only [Value.slice.injEq] at hv
          obtain ⟨e1, _, e2⟩ := hv
          subst e1
          subst e2
          obtain ⟨eb, eo, nm, pr, rfl, hebl, hex, c0, c1⟩ := hcs j hjm
          have HA2 := hid (show (es.map (·.print)).take (j + 1) = (es.map (·.print)).take j ++ [pr] by rw [take_snoc' (x := pr) (by rw [List.getElem?_map, hex.out]; rfl)])
          have hal2 : Below w.heap.size w (wr.alloc (.cells #[.string nm, .int .i64 pr] 45)) := hb2.alloc hb2.size _
          have hown3 := hown2.alloc (.cells #[.string nm, .int .i64 pr] 45)
          have hol3 := hol.alloc (.cells #[.string nm, .int .i64 pr] 45)
          have hB3 := hal2.size
          clear hcs hown2 hb2 hol
          go_wp2_with (at_builtin; refine push_int (w0 := w) rfl _ _ rfl w.heap.size w.heap.size _ acc2 pr hown3 hal2 hB3 (Nat.le_refl _) rfl (by simp [Act.eval]) (by omega) ?_; intro v' w' hown' hb' hB' hg')
          go_roundw
          case rel =>
            have hne : (Value.slice (some ⟨eb, eo, none⟩) m lc).ownBlock = none ∨ (Value.slice (some ⟨eb, eo, none⟩) m lc).ownBlock ≠ Value.ownBlock _ := .inr (fun e => by
              have h5 := hlt4.out eb rfl
              rcases hpb2.out eb e.symm with h6 | h6
              · omega
              · omega)
            have hsz3 : w4.heap.size ≤ w'.heap.size := by have := hg'.1.size; simp at this; omega
            refine ⟨j + 1, _, by omega, by go_num, hown', by unfold Hid; rw [HA2.out, hacc2.out, List.append_assoc], by simp; omega, Own.kept hol3 hg'.1 hne, hid fun g hg => ?_, hb', hsz3⟩
            rcases hg'.2 g hg with h6 | h6
            · exact hpb2.out g h6
            · exact .inr (by simp at h6; omega)
          case measure => simp [intOf]; omega
        · have HF := hid (show acc2 = named (xs.take (k + 1)) by
            have e9 : (es.map (·.print)).take j = es.map (·.print) := List.take_of_length_le (by rw [List.length_map, HM.out]; omega)
            rw [hacc2.out, HA.out, hacc.out, e9]; unfold prs; rw [HES.out])
          go_wp2
          go_roundw
          case rel => exact ⟨k + 1, acc2, by omega, by go_num, hown2, HF, by omega, hb2⟩
          case measure => simp [intOf]; omega
    · have HA := hid (show acc = named xs by rw [hacc.out, take_all HN.out (show n ≤ k by omega)])
      go_wp2
      go_ret
      exact ⟨_, rfl, by rw [← HA.out]; exact hown, hb⟩

end Go.Proofs.YtkfkcbceoekgjaaDoor
