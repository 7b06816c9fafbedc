/- A region that draws its order: its first e operations are moves, then come quiet ones (they read, or call what only draws), and from operation n on everything waits for the one before: one walk in the text's order serves every order. No program in sight. -/
import Derived.Test.YtkfkcbceoekgjaaDoorBase
import Derived.StillTail
import Derived.Deep.QuietTactic
import Derived.BigQuiet
namespace Go.Proofs.YtkfkcbceoekgjaaDoor
open Go.RowKit

/-- A callee's contract inside a quiet walk, whatever the count of draws is spelled like. -/
theorem qsame {P : Program} {f : FuncId} {args : Array Value} {g : Nat → World} {n : Nat} {v : Value} (h : Calls P f args (g n) fun e w' => e = .returned v ∧ g n = w') :
    Calls P f args (g n) fun e w'' => e = .returned v ∧ ∃ m, w'' = g m := h.mono fun _ _ ⟨he, hw⟩ => ⟨he, n, hw.symm⟩
theorem qdraw {P : Program} {f : FuncId} {args : Array Value} {w : World} {n : Nat} {v : Value} (h : Calls P f args (w.drewN n) fun e w' => e = .returned v ∧ ∃ k, w' = (w.drewN n).drewN k) :
    Calls P f args (w.drewN n) fun e w'' => e = .returned v ∧ ∃ m, w'' = w.drewN m := h.mono fun _ _ ⟨he, k, hw⟩ => ⟨he, n + k, by rw [hw, World.drewN_drewN]⟩
theorem qdraw' {P : Program} {f : FuncId} {args : Array Value} {w : World} {a n : Nat} {v : Value} (h : Calls P f args (w.drewN (a + n)) fun e w' => e = .returned v ∧ ∃ k, w' = (w.drewN (a + n)).drewN k) :
    Calls P f args (w.drewN (a + n)) fun e w'' => e = .returned v ∧ ∃ m, w'' = w.drewN (a + m) := h.mono fun _ _ ⟨he, k, hw⟩ => ⟨he, n + k, by rw [hw, World.drewN_drewN, Nat.add_assoc]⟩

section
variable {P : Program} {ops : Array Oper} {md : Region.Mode} {C : World → Prop}

/-- Every operation from e to n (n left out) is waited for, directly, by a later one up to n. -/
def sinkFrom (md : Region.Mode) (ops : Array Oper) (e n : Nat) : Bool :=
  (List.range n).all fun i => decide (i < e) || (List.range (n + 1)).any fun j => decide (i < j) && Region.waitsFor md ops j i

/-- While one of those is pending nothing from n on may come up. -/
theorem held_back {e n : Nat} {listed : Array Bool} (hs : sinkFrom md ops e n = true) (hc : Region.chainB md ops n = true) (hn : n < ops.size) (inv : HeadInv md ops n listed) :
    ∀ (d i : Nat), n - i = d → e ≤ i → i < n → listed.getD i true = false → ∀ t, n ≤ t → t ∉ Region.ready md ops listed := by
  intro d
  induction d using Nat.strongRecOn with
  | _ d ih =>
    intro i hd hei hi hun t ht hr
    have hr' := hr
    obtain ⟨_, ot, hot, hall⟩ := mem_ready.1 hr'
    have htlt : t < ops.size := (Array.getElem?_eq_some_iff.1 hot).1
    rcases Nat.lt_or_ge n t with htn | htn
    · have h1 := List.all_eq_true.1 hc t (List.mem_range.2 htlt)
      rcases Bool.or_eq_true_iff.1 h1 with h2 | h2
      · have := of_decide_eq_true h2; omega
      · obtain ⟨o', ho', x, hx, hb, hon⟩ := Region.waitsFor_spec h2
        obtain rfl : o' = ot := Option.some.inj (ho'.symm.trans hot)
        have h3 := hall x hx hb
        rw [hon, getD_both (inv.tail (t - 1) (by omega) (by omega))] at h3
        cases h3
    · obtain rfl : t = n := by omega
      have h1 := List.all_eq_true.1 hs i (List.mem_range.2 hi)
      rcases Bool.or_eq_true_iff.1 h1 with h2 | h2
      · have := of_decide_eq_true h2; omega
      · obtain ⟨j, hj, hj2⟩ := List.any_eq_true.1 h2
        obtain ⟨hij, hw⟩ := Bool.and_eq_true_iff.1 hj2
        have hij := of_decide_eq_true hij
        have hjn : j ≤ t := by have := List.mem_range.1 hj; omega
        obtain ⟨oj, hoj, x, hx, hb, hon⟩ := Region.waitsFor_spec hw
        rcases Nat.lt_or_ge j t with hjt | hjt
        · cases hl : listed.getD j false with
          | true =>
            have h3 := inv.closed j oj hoj hl x hx hb
            rw [hon, getD_both hun] at h3
            cases h3
          | false => exact ih (t - j) (by omega) j rfl (by omega) hjt (getD_in (by rw [inv.size]; omega) hl) t (Nat.le_refl _) hr
        · obtain rfl : j = t := by omega
          obtain rfl : oj = ot := Option.some.inj (hoj.symm.trans hot)
          have h3 := hall x hx hb
          rw [hon, getD_both hun] at h3
          cases h3

/-- Whatever order the operations ahead of n take; behind them L. -/
def wpHead (P : Program) (md : Region.Mode) (ops : Array Oper) (C : World → Prop) (n : Nat) (L : Array Bool → Act → Prop) : Nat → Array Bool → Act → Prop
  | 0, listed, a => L listed a
  | f + 1, listed, a => Region.ready md ops listed ≠ [] ∧ ∀ i ∈ Region.ready md ops listed, i < n ∧ qOp P ops C i (wpHead P md ops C n L f (listed.setIfInBounds i true)) a

theorem wpAny_of_wpHead {n g : Nat} {L : Array Bool → Act → Prop} {Q : Exit → Act → World → Prop} (hL : ∀ listed a w, C w → L listed a → wpAny P md ops Q g listed a w) :
    ∀ (f : Nat) (listed : Array Bool) (a : Act) (w : World), C w → wpHead P md ops C n L f listed a → wpAny P md ops Q (f + g) listed a w := by
  intro f
  induction f with
  | zero => intro listed a w hw h; rw [Nat.zero_add]; exact hL _ _ _ hw h
  | succ f ih =>
    intro listed a w hw h
    rw [Nat.succ_add]
    exact ⟨fun h0 => absurd h0 h.1, fun i hi => wpOp_of_qOp hw (fun a' w' hw' h' => ih _ a' w' hw' h') (h.2 i hi).2⟩

theorem wpHead_first {e n i : Nat} {oi : Oper} {v : Value} {L : Array Bool → Act → Prop} (hi : ops[i]? = some oi) (hsel : ∀ (j : Nat) (o : Oper) cs b, ops[j]? = some o → o.op ≠ .select cs b)
    (hs : sinkFrom md ops e n = true) (hc : Region.chainB md ops n = true) (hn : n < ops.size) (hei : e ≤ i) (hin : i < n)
    (hdone : ∀ listed a, L listed a → ∀ j ∈ Region.ready md ops listed, n ≤ j) :
    ∀ (f : Nat) (listed : Array Bool) (a : Act), HeadInv md ops n listed →
      (∀ j oj, ops[j]? = some oj → j ≠ i → listed.getD j true = false → (∀ x ∈ oj.after, Region.binds md x = true → x.on ≠ i) → oi.apart ops oj = true) →
      i ∈ Region.ready md ops listed → YieldsIn P ops C oi v a →
      wpHead P md ops C n L f (listed.setIfInBounds i true) (a.put oi.dst v) → wpHead P md ops C n L (f + 1) listed a := by
  intro f
  induction f with
  | zero =>
    intro listed a inv _ hr hy H
    have hun := (mem_ready.1 hr).1
    refine ⟨fun h => (by rw [h] at hr; cases hr), fun j hj => ?_⟩
    have hjn : j < n := Nat.lt_of_not_le fun h => held_back hs hc hn inv _ i rfl hei hin hun j h hj
    refine ⟨hjn, ?_⟩
    by_cases hji : j = i
    · subst hji; exact hy.qOp hi H
    · exact absurd (hdone _ _ H j (ready_mono hj hji)) (by omega)
  | succ f ih =>
    intro listed a inv hfree hr hy H
    have hun := (mem_ready.1 hr).1
    refine ⟨fun h => (by rw [h] at hr; cases hr), fun j hj => ?_⟩
    have hjn : j < n := Nat.lt_of_not_le fun h => held_back hs hc hn inv _ i rfl hei hin hun j h hj
    refine ⟨hjn, ?_⟩
    by_cases hji : j = i
    · subst hji; exact hy.qOp hi H
    · have hj' := hj
      obtain ⟨hjun, oj, hoj, hall⟩ := mem_ready.1 hj'
      have hnot : ∀ x ∈ oj.after, Region.binds md x = true → x.on ≠ i := fun x hx hb heq => by
        have h1 := hall x hx hb
        rw [heq, getD_both hun] at h1
        cases h1
      have h2 := qOp_put hoj (hfree j oj hoj hji hjun hnot) (fun cs b => hsel i oi cs b hi) (fun cs b => hsel j oj cs b hoj) hy (H.2 j (ready_mono hj hji)).2
      refine qOp_mono (fun a' h3 => ih (listed.setIfInBounds j true) a' (inv.set hj hjn) (fun k ok hk hki hunk hno => hfree k ok hk hki ?_ hno) (ready_mono hr (Ne.symm hji)) h3.1 ?_) h2
      · by_cases hjk : j = k
        · subst hjk; exact hjun
        · rwa [getD_set_ne true hjk] at hunk
      · rw [Array.setIfInBounds_comm _ _ hji]; exact h3.2

theorem wpHead_lex {e n g : Nat} {Lq : Act → Prop} (hsel : Region.noSelect ops = true) (hs : sinkFrom md ops e n = true) (hc : Region.chainB md ops n = true) (hn : n < ops.size) :
    ∀ (l : List Oper) (k : Nat) (listed : Array Bool) (a : Act), (∀ j, j < l.length → l[j]? = ops[k + j]?) → k + l.length = n → e ≤ k → HeadInv md ops n listed →
    Region.lexHead md ops g l.length k listed = true → wpQuiet P ops C Lq l a →
    wpHead P md ops C n (fun listed' a' => Region.seqB md ops g n listed' = true ∧ Lq a') l.length listed a := by
  intro l
  induction l with
  | nil =>
    intro k listed a _ hk _ _ hB h
    obtain rfl : k = n := by simpa using hk
    exact ⟨hB, h⟩
  | cons o l ih =>
    intro k listed a hl hk hek inv hB h
    have h0 : ops[k]? = some o := by simpa using (hl 0 (by simp)).symm
    simp only [List.length_cons, Region.lexHead, Bool.and_eq_true] at hB
    have hkn : k < n := by simp only [List.length_cons] at hk; omega
    have hr : k ∈ Region.ready md ops listed := by simpa using hB.1.1
    obtain ⟨v, hy, hK⟩ := yieldsIn_of_qOp (K := wpQuiet P ops C Lq l) h0 (by unfold qOp; simp only [h0]; exact h)
    refine wpHead_first h0 (Region.noSelect_spec hsel) hs hc hn hek hkn (fun listed' a' hL => seqB_ready hL.1) l.length listed a inv (Region.free_spec h0 hB.1.2) hr hy ?_
    exact ih (k + 1) _ _ (fun j hj => by have := hl (j + 1) (by simp; omega); simpa [Nat.add_assoc, Nat.add_comm 1 j] using this) (by simp only [List.length_cons] at hk; omega) (by omega) (inv.set hr hkn) hB.2 hK

/-- The first operation is a move, and may be taken first. -/
def earlyB (md : Region.Mode) (ops : Array Oper) (n : Nat) : Bool :=
  Region.noSelect ops && decide (n < ops.size) && decide (0 < n) && sinkFrom md ops 1 n && Region.chainB md ops n &&
    ((Region.ready md ops (Array.replicate ops.size false)).contains 0 && Region.free md ops (Array.replicate ops.size false) 0 &&
      Region.lexHead md ops (ops.size - n) (n - 1) 1 ((Array.replicate ops.size false).setIfInBounds 0 true))

theorem wp_region_early {id n : Nat} {Q : Exit → Act → World → Prop} {a : Act} {w : World} {o0 : Oper} {l : List Oper} (x : Operand) (hx : o0.op = .move x) (hg : o0.guard = none)
    (hm : P.follows .mixedOrders = true) (hB : earlyB .any (o0 :: l).toArray n = true) (hQ : ∀ c (b : Act) (v : Value) w', Q (.panic c) (b.put o0.dst v) w' → Q (.panic c) b w')
    (h : wpQuiet P (o0 :: l).toArray (fun w' => ∃ m, w' = w.drewN m) (fun a' => ∀ m, wpList P (o0 :: l).toArray Q ((o0 :: l).drop n) a' (w.drewN m)) (l.take (n - 1)) (a.put o0.dst (a.eval x))) :
    (Code.region id (o0 :: l).toArray true).wp P Q a w := by
  generalize hops : (o0 :: l).toArray = ops at *
  have hsz : ops.size = l.length + 1 := by rw [← hops]; simp
  have hget : ∀ j, ops[j + 1]? = l[j]? := fun j => by rw [← hops]; simp
  have h0 : ops[0]? = some o0 := by rw [← hops]; simp
  simp only [earlyB, Bool.and_eq_true, decide_eq_true_eq] at hB
  obtain ⟨⟨⟨⟨⟨hsel, hn⟩, hn0⟩, hs⟩, hc⟩, ⟨hr, hf⟩, hlex⟩ := hB
  have hr' : 0 ∈ Region.ready .any ops (Array.replicate ops.size false) := by simpa using hr
  have inv0 : HeadInv .any ops n (Array.replicate ops.size false) :=
    ⟨by simp, fun j oj _ hl => (by rw [getD_replicate_false] at hl; cases hl), fun t _ ht => getD_in (by simpa using ht) (getD_replicate_false _ _)⟩
  have htl : (l.take (n - 1)).length = n - 1 := by simp; omega
  have H := wpHead_lex (md := .any) (C := fun w' => ∃ m, w' = w.drewN m) (e := 1) (g := ops.size - n) hsel hs hc hn (l.take (n - 1)) 1 _ _
    (fun j hj => by
      have hj' : j < n - 1 := by rw [htl] at hj; exact hj
      rw [Nat.add_comm 1 j, hget, List.getElem?_take, if_pos hj'])
    (by rw [htl]; omega) (Nat.le_refl _) (inv0.set hr' hn0) (by rw [htl]; exact hlex) h
  refine wp_region_any hm ?_
  have hy : Yields P ops o0 (a.eval x) a := .inl ⟨by simp [Region.wanted, hg], fun w => BigFrame.run_move x hx w⟩
  have hfin := wpAny_of_wpHead (Q := Q) (g := ops.size - n) (fun listed a' w' hw' hL => by
    obtain ⟨m, rfl⟩ := hw'
    have := wpAny_of_seq (md := .any) (Q' := Q) ((o0 :: l).drop n) n listed a' (w.drewN m) (fun j => by rw [List.getElem?_drop, ← hops]; simp) (by rw [List.length_drop, List.length_cons, ← hsz]; exact hL.1) (hL.2 m)
    rwa [List.length_drop, List.length_cons, ← hsz] at this) _ _ _ (w.drewN 1) ⟨1, rfl⟩ H
  rw [htl, show n - 1 + (ops.size - n) = ops.size - 1 by omega] at hfin
  obtain ⟨f, hfu⟩ : ∃ f, ops.size = f + 1 := ⟨ops.size - 1, by omega⟩
  have hfu' : ops.size - 1 = f := by omega
  rw [hfu'] at hfin
  rw [hfu] at hfin hr' hf hr ⊢
  exact wpAny_take h0 hsel hf hr (fun c b w' h => hQ c b _ w' h) hy hfin
end

end Go.Proofs.YtkfkcbceoekgjaaDoor
