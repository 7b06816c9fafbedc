/- Walks and plain facts, joined: Cut, ReadF, ReadS, PutP, WriteP, MapP, WayP, EntP, Pcs. -/
import Derived.Test.YtfdhaigmekmboaaDoorMg1
import Derived.Test.YtfdhaigmekmboaaDoorMg2
import Derived.Lib.Bytealg
import Derived.Laws.Externs
set_option linter.unusedVariables false

/- Walks: what Go's library cuts off a text at one byte. -/
namespace Go.Proofs.YtfdhaigmekmboaaDoor
open Go.RowKit

theorem idx_none : ∀ {l : List UInt8} {c : UInt8}, c ∉ l → Go.Lib.indexByte l c = -1
  | [], c, _ => rfl
  | x :: r, c, h => by
    have h1 : ¬ x = c := fun e => h (by rw [e]; simp)
    have h2 := idx_none (l := r) (c := c) (fun e => h (List.mem_cons_of_mem _ e))
    simp [Go.Lib.indexByte, h1, h2]
theorem idx_some : ∀ {a r : List UInt8} {c : UInt8}, c ∉ a → Go.Lib.indexByte (a ++ c :: r) c = a.length
  | [], r, c, _ => by simp [Go.Lib.indexByte]
  | x :: a, r, c, h => by
    have h1 : ¬ x = c := fun e => h (by rw [e]; simp)
    have h2 := idx_some (a := a) (r := r) (c := c) (fun e => h (List.mem_cons_of_mem _ e))
    simp only [List.cons_append, Go.Lib.indexByte, h2]
    simp [h1]
/-- A list without a byte, or with it behind a part that has none of it. -/
theorem cut_ways (c : UInt8) : ∀ l : List UInt8, c ∉ l ∨ ∃ a r, l = a ++ c :: r ∧ c ∉ a
  | [] => .inl (by simp)
  | x :: l => by
    by_cases h : x = c
    · subst h; exact .inr ⟨[], l, rfl, by simp⟩
    · rcases cut_ways c l with h1 | ⟨a, r, e, h1⟩
      · exact .inl (by simp [Ne.symm h, h1])
      · exact .inr ⟨x :: a, r, by rw [e]; rfl, by simp [Ne.symm h, h1]⟩

set_option maxHeartbeats 400000 in
theorem IndexByte_c (s : ByteArray) (c : UInt8) (w : World) :
    Calls Tryd.prog 82 #[.string s, .int .u8 c.toNat] w fun e w' => e = .returned (.int .i64 (Go.Lib.indexByte (bs s) c)) ∧ w = w' := by
  have hx : (callFunc 93 #[.string s, .int .u8 (c.toNat : Int)]).run Tryd.prog w = .ok (.value (.int .i64 (Go.Lib.indexByte (bs s) c))) w := by
    rw [run_callFunc_extern Tryd.func93 (by kernel_rfl) (by kernel_rfl) (by kernel_rfl) (e := Extern.BytealgIndexByte.indexByte) (by kernel_rfl), Lib.run_indexByteString]
    have e1 : ((c.toNat : Int).toNat).toUInt8 = c := by simp
    rw [e1]
    rfl
  go_enter Tryd.func82, Tryd.ntmps82
  go_wp2_with (simp only [hx])
  go_ret
  exact ⟨rfl, rfl⟩

set_option maxHeartbeats 400000 in
theorem Index1_c (s : ByteArray) (c : UInt8) (w : World) :
    Calls Tryd.prog 72 #[.string s, .string (strL [c])] w fun e w' => e = .returned (.int .i64 (Go.Lib.indexByte (bs s) c)) ∧ w = w' := by
  have hsz : (strL [c]).size = 1 := strL_size _
  have hget : (strL [c])[0]'(by rw [hsz]; omega) = c := rfl
  cases heq : ((strL [c]).toList == s.toList)
  · go_enter Tryd.func72, Tryd.ntmps72
    go_wp2_with (go_at_call 82; refine (IndexByte_c s c _).mono ?_; rintro e w' ⟨rfl, rfl⟩)
    go_ret
    exact ⟨rfl, rfl⟩
  · have hs : [c] = bs s := by
      have := str_beq s [c]
      rw [heq] at this
      exact of_decide_eq_true this.symm
    have HI := hid (show Go.Lib.indexByte (bs s) c = 0 by rw [← hs]; exact idx_some (a := []) (r := []) (by simp))
    clear hs
    go_enter Tryd.func72, Tryd.ntmps72
    go_wp2
    go_ret
    exact ⟨ret_i HI.out.symm, rfl⟩

theorem ext_strL (s : ByteArray) (i j : Nat) : s.extract i j = strL (((bs s).take j).drop i) := by
  apply ByteArray.ext
  apply Array.ext'
  simp [strL, bs, List.drop_take]

set_option maxHeartbeats 400000 in
theorem Cut_no_c (s : ByteArray) (c : UInt8) (w : World) (h : c ∉ bs s) :
    Calls Tryd.prog 60 #[.string s, .string (strL [c])] w fun e w' => e = .returned (.tuple #[.string s, .string ByteArray.empty, .bool false]) ∧ ∃ q, w' = w.drewN q := by
  have HI := hid (idx_none h)
  clear h
  go_enter Tryd.func60, Tryd.ntmps60
  go_wp2_with fail
  refine (Index1_c s c _).mono ?_
  rw [HI.out]
  rintro e w' ⟨rfl, rfl⟩
  go_wp2
  go_ret3
  exact ⟨rfl, 0, rfl⟩

set_option maxHeartbeats 400000 in
theorem Cut_yes_c (s : ByteArray) (c : UInt8) (a r : List UInt8) (w : World) (h : bs s = a ++ c :: r) (hc : c ∉ a) (hs : s.size ≤ 1048576) :
    Calls Tryd.prog 60 #[.string s, .string (strL [c])] w fun e w' => e = .returned (.tuple #[.string (strL a), .string (strL r), .bool true]) ∧ ∃ q, w' = w.drewN q := by
  have HI := hid (show Go.Lib.indexByte (bs s) c = a.length by rw [h]; exact idx_some hc)
  have hl : s.size = a.length + (r.length + 1) := by rw [← bs_lenH, h]; simp
  have x1 : s.extract 0 a.length = strL a := by rw [ext_strL, h]; simp
  have x2 : s.extract (a.length + 1) s.size = strL r := by rw [ext_strL, ← bs_lenH, List.take_length, h]; simp [← List.drop_drop]
  have hsz : (strL [c]).size = 1 := strL_size _
  obtain ⟨k, hk⟩ : ∃ k, a.length = k := ⟨_, rfl⟩
  rw [hk] at HI hl x1 x2
  have hks : (k : Int) ≤ s.size := by omega
  have hks1 : (k : Int) + 1 ≤ s.size := by omega
  have HX := hid x2
  clear h hc hk hl
  go_enter Tryd.func60, Tryd.ntmps60
  go_wp2_with fail
  refine (Index1_c s c _).mono ?_
  rw [HI.out]
  rintro e w' ⟨rfl, rfl⟩
  go_wp2
  go_quiet (fail)
  go_wp2
  go_ret3
  exact ⟨by rw [← HX.out]; rfl, _, rfl⟩

set_option maxHeartbeats 400000 in
theorem strings_Cut_no_c (s : ByteArray) (c : UInt8) (w : World) (h : c ∉ bs s) :
    Calls Tryd.prog 37 #[.string s, .string (strL [c])] w fun e w' => e = .returned (.tuple #[.string s, .string ByteArray.empty, .bool false]) ∧ ∃ q, w' = w.drewN q := by
  go_enter Tryd.func37, Tryd.ntmps37
  go_wp2_with fail
  refine (Cut_no_c s c _ h).mono ?_
  rintro e w' ⟨rfl, q, rfl⟩
  go_wp2
  go_ret3
  exact ⟨rfl, q, rfl⟩

set_option maxHeartbeats 400000 in
theorem strings_Cut_yes_c (s : ByteArray) (c : UInt8) (a r : List UInt8) (w : World) (h : bs s = a ++ c :: r) (hc : c ∉ a) (hs : s.size ≤ 1048576) :
    Calls Tryd.prog 37 #[.string s, .string (strL [c])] w fun e w' => e = .returned (.tuple #[.string (strL a), .string (strL r), .bool true]) ∧ ∃ q, w' = w.drewN q := by
  go_enter Tryd.func37, Tryd.ntmps37
  go_wp2_with fail
  refine (Cut_yes_c s c a r _ h hc hs).mono ?_
  rintro e w' ⟨rfl, q, rfl⟩
  go_wp2
  go_ret3
  exact ⟨rfl, q, rfl⟩

set_option maxHeartbeats 400000 in
theorem CutPrefix_yes_c (s : ByteArray) (c : UInt8) (r : List UInt8) (w : World) (h : bs s = c :: r) (hs : s.size ≤ 1048576) :
    Calls Tryd.prog 36 #[.string s, .string (strL [c])] w fun e w' => e = .returned (.tuple #[.string (strL r), .bool true]) ∧ w = w' := by
  have hl : s.size = r.length + 1 := by rw [← bs_lenH, h]; simp
  have x1 : s.extract 0 1 = strL [c] := by rw [ext_strL, h]; simp
  have x2 : s.extract 1 s.size = strL r := by rw [ext_strL, ← bs_lenH, List.take_length, h]; simp
  have hsz : (strL [c]).size = 1 := strL_size _
  have hs1 : (1 : Int) ≤ s.size := by omega
  have hb : ((strL [c]).toList == (strL [c]).toList) = true := by simp
  have HX := hid x2
  clear h hl
  go_enter Tryd.func36, Tryd.ntmps36
  go_wp2_with go_in
  go_ret2
  exact ⟨by rw [← HX.out]; rfl, rfl⟩

set_option maxHeartbeats 400000 in
theorem CutPrefix_no_c (s : ByteArray) (c : UInt8) (w : World) (h : ∀ r, bs s ≠ c :: r) (hs : s.size ≤ 1048576) :
    Calls Tryd.prog 36 #[.string s, .string (strL [c])] w fun e w' => e = .returned (.tuple #[.string s, .bool false]) ∧ w = w' := by
  have hsz : (strL [c]).size = 1 := strL_size _
  by_cases h0 : s.size = 0
  · have hs1 : ¬ (1 : Int) ≤ s.size := by omega
    clear h h0
    go_enter Tryd.func36, Tryd.ntmps36
    go_wp2_with go_in
    go_ret2
    exact ⟨rfl, rfl⟩
  · have hs1 : (1 : Int) ≤ s.size := by omega
    obtain ⟨x, r, hx⟩ : ∃ x r, bs s = x :: r := by
      cases hb : bs s with
      | nil => exact absurd (by rw [← bs_lenH, hb]; rfl) h0
      | cons x r => exact ⟨x, r, rfl⟩
    have hxc : [x] ≠ [c] := fun e => h r (by rw [hx]; simp at e; rw [e])
    have x1 : s.extract 0 1 = strL [x] := by rw [ext_strL, hx]; simp
    have hb : ((strL [x]).toList == (strL [c]).toList) = false := by rw [strL_ne]; exact decide_eq_false hxc
    clear h h0 hx hxc
    go_enter Tryd.func36, Tryd.ntmps36
    go_wp2_with go_in
    go_ret2
    exact ⟨rfl, rfl⟩

end Go.Proofs.YtfdhaigmekmboaaDoor

/- Walks: reading folders, the program's way. -/
namespace Go.Proofs.YtfdhaigmekmboaaDoor
open Go.RowKit

theorem info_ent : (Tryd.prog.info? 37).map (fun i => (i.zero, i.size, i.bytes)) = some (some (.agg #[.string ByteArray.empty, .int .i64 0]), 2, 24) := by kernel_rfl
theorem push_ent {ops : Array Oper} {rest : List Oper} {o : Oper} {a : Act} {Q : Exit → Act → World → Prop} {w0 wr : World} (hgd : o.guard = none) (s x : Operand) (ho : o.op = .call { callee := .builtin .append, args := #[s, x], argTypes := #[30, 30] }) (B B0 : Nat) (v : Value) (acc : List Ent) (y : Ent)
    (hown : OwnE wr B v acc) (hb : Below B0 w0 wr) (hB : B ≤ wr.heap.size) (hB0 : B0 ≤ B) (hs : a.eval s = v) (hx : a.eval x = .slice (some ⟨wr.heap.size, 0, none⟩) 1 1) (hn : acc.length < 1099511627775)
    (h : ∀ v' w', OwnE w' B v' (acc ++ [y]) → Below B0 w0 w' → B ≤ w'.heap.size → wr.grownBy w' v.ownBlock ∧ (∀ g, v'.ownBlock = some g → v.ownBlock = some g ∨ wr.heap.size ≤ g) → wpList Tryd.prog ops Q rest (a.put o.dst v') w') :
    wpList Tryd.prog ops Q (o :: rest) a (wr.alloc (.cells #[.string y.name, .int .i64 y.print] 37)) := by
  obtain ⟨i0, hi, hz0, hz1, hz2⟩ := info_parts info_ent
  exact wpList_push (enc := encE) hgd s x 30 ho B B0 37 i0 _ 2 24 Tryd.underlying30 hi hz0 hz1 hz2 rfl (by decide) v acc y hown hb hB hB0 hs hx rfl (by simp [Value.oneCell']) hn (by decide) h

def sizeOfV : Value → Nat
  | .string s => s.size
  | _ => 0
theorem ents_cut {e : Ent} {r : List Ent} {A R2 : List UInt8} (he : entOk e = true) (h : entsText (e :: r) = A ++ 59 :: R2) (hA : 59 ∉ A) : A = bs e.name ++ 61 :: hexT e.print ∧ R2 = entsText r := by
  have h1 : entsText (e :: r) = (bs e.name ++ 61 :: hexT e.print) ++ 59 :: entsText r := by simp [entsText, entText]
  rw [h1] at h
  have h2 : (59 : UInt8) ∉ bs e.name ++ 61 :: hexT e.print := by
    have ha := (entText_cut he).2
    have hw := (entOk_iff.1 he).1
    intro hm
    rcases List.mem_append.1 hm with h | h
    · exact (wordOk_ch hw h).2 rfl
    · rcases List.mem_cons.1 h with h | h
      · cases h
      · exact ha h
  obtain ⟨e1, e2⟩ := cut_at _ _ _ _ _ h2 hA h
  exact ⟨e1.symm, e2.symm⟩
/-- What stands of the entries, if the text is a folder's. -/
def FoldInv (l : List UInt8) (acc : List Ent) (R : List UInt8) : Prop := ∀ es, entsOk es = true → folderText es = l → ∃ todo, es = acc ++ todo ∧ R = entsText todo
theorem inv_start {l R : List UInt8} (h : l = 100 :: R) : FoldInv l [] R := by
  intro es ho ht
  rw [folder_on ho, h] at ht
  exact ⟨es, rfl, by simpa using ht.symm⟩
theorem inv_no59 {l R : List UInt8} {acc : List Ent} (hi : FoldInv l acc R) (hR : R ≠ []) (h : 59 ∉ R) : readFolder l = none := by
  refine readFolder_no (fun es ho ht => ?_)
  obtain ⟨todo, he, hr⟩ := hi es ho ht
  cases todo with
  | nil => exact hR hr
  | cons e r => exact h (by rw [hr]; simp [entsText, entText])
theorem inv_no61 {l R A R2 : List UInt8} {acc : List Ent} (hi : FoldInv l acc R) (h : R = A ++ 59 :: R2) (hA : 59 ∉ A) (h61 : 61 ∉ A) : readFolder l = none := by
  refine readFolder_no (fun es ho ht => ?_)
  obtain ⟨todo, he, hr⟩ := hi es ho ht
  cases todo with
  | nil => rw [hr] at h; simp [entsText] at h
  | cons e r =>
    have hoe := ents_all ho (e := e) (by rw [he]; simp)
    obtain ⟨e1, _⟩ := ents_cut hoe (hr.symm.trans h) hA
    exact h61 (by rw [e1]; simp)
theorem inv_four {l R : List UInt8} {acc : List Ent} (hi : FoldInv l acc R) (hR : R ≠ []) (h3 : acc.length = 3) : readFolder l = none := by
  refine readFolder_no (fun es ho ht => ?_)
  obtain ⟨todo, he, hr⟩ := hi es ho ht
  cases todo with
  | nil => exact hR hr
  | cons e r =>
    have := (ents_in ho).1
    rw [he] at this
    simp at this
    omega
theorem inv_step {l R N H R2 : List UInt8} {acc : List Ent} (hi : FoldInv l acc R) (h : R = (N ++ 61 :: H) ++ 59 :: R2) (hA : 59 ∉ N ++ 61 :: H) (hN : 61 ∉ N) : FoldInv l (acc ++ [⟨strL N, readHex H⟩]) R2 := by
  intro es ho ht
  obtain ⟨todo, he, hr⟩ := hi es ho ht
  cases todo with
  | nil => rw [hr] at h; simp [entsText] at h
  | cons e r =>
    have hoe := ents_all ho (e := e) (by rw [he]; simp)
    obtain ⟨e1, e2⟩ := ents_cut hoe (hr.symm.trans h) hA
    obtain ⟨e3, e4⟩ := cut_at _ _ _ _ _ hN (entText_cut hoe).1 e1
    refine ⟨r, ?_, e2⟩
    rw [he, List.append_assoc]
    congr 1
    rw [e3, e4, strL_bs, readHex_T (entOk_iff.1 hoe).2]
    rfl
theorem inv_end {l : List UInt8} {acc : List Ent} (hi : FoldInv l acc []) (h : folderText acc ≠ l) : readFolder l = none := by
  refine readFolder_no (fun es ho ht => ?_)
  obtain ⟨todo, he, hr⟩ := hi es ho ht
  cases todo with
  | nil => rw [List.append_nil] at he; subst he; exact h ht
  | cons e r => simp [entsText, entText] at hr
theorem inv_yes {l : List UInt8} {acc : List Ent} (h : folderText acc = l) (hl : l ≠ []) : readFolder l = some acc := by
  refine readFolder_yes ?_ h
  cases ho : entsOk acc
  · exact absurd (by rw [← h, folder_off ho]) hl
  · rfl
theorem entsOf_none {l : List UInt8} (h : readFolder l = none) : entsOf l = [] ∧ (readFolder l).isSome = false := by unfold entsOf; rw [h]; exact ⟨rfl, rfl⟩
theorem entsOf_some {l : List UInt8} {es : List Ent} (h : readFolder l = some es) : entsOf l = es ∧ (readFolder l).isSome = true := by unfold entsOf; rw [h]; exact ⟨rfl, rfl⟩

set_option maxHeartbeats 2000000 in
set_option maxRecDepth 100000 in
theorem impl_ReadFolder_c (s : ByteArray) (w : World) (hs : s.size ≤ 1048576) (hg : Glob w) :
    Calls Tryd.prog 14 #[.string s] w fun e w' => ∃ v', e = .returned (.tuple #[v', .bool (readFolder (bs s)).isSome]) ∧ OwnE w' w.heap.size v' (entsOf (bs s)) ∧ Below w.heap.size w w' := by
  by_cases hpre : ∃ R, bs s = 100 :: R
  · obtain ⟨R0, hR0⟩ := hpre
    have HG := hid hg
    have hne := hid (show bs s ≠ [] by rw [hR0]; simp)
    have hsz := bs_lenH s
    rw [hR0] at hsz
    simp only [List.length_cons] at hsz
    have HI0 := hid (inv_start hR0)
    have HR0 := hid hR0
    clear hR0 hg
    go_enter Tryd.func14, Tryd.ntmps14
    go_wp2_with fail
    refine (CutPrefix_yes_c s 100 R0 _ HR0.out hs).mono ?_
    rintro e w' ⟨rfl, rfl⟩
    go_wp2
    go_loopw [4, 6] (fun rv lv wr => ∃ (R : List UInt8) (acc : List Ent), rv = .string (strL R) ∧ R.length ≤ 1048576 ∧ acc.length ≤ 3 ∧ OwnE wr w.heap.size lv acc ∧ Hid (FoldInv (bs s) acc R) ∧ Below w.heap.size w wr) (fun rv _ _ => sizeOfV rv)
    case atStart => exact ⟨R0, [], rfl, by omega, by simp, Own.nil_, HI0, Below.refl _ _⟩
    case round =>
      obtain ⟨R, acc, rfl, hRl, hacc, hown, hinv, hb⟩ := hrel
      have hrs := strL_size R
      by_cases hR : R = []
      · subst hR
        have hem : (strL []).toList.isEmpty = true := by rw [ByteArray.toList_eq]; rfl
        have hbq := str_beq s (folderText acc)
        by_cases he : folderText acc = bs s
        · have HF := hid (entsOf_some (inv_yes he hne.out))
          have hb2 : ((strL (folderText acc)).toList == s.toList) = true := by rw [hbq]; exact decide_eq_true he
          clear hbq he
          go_wp2_with fail
          refine (impl_FolderText_c _ acc _ (Rd.of_own hown) (HG.out.on hb)).mono ?_
          rintro e w1 ⟨rfl, b1⟩
          have hown1 := hown.on b1
          have hb1 := bl_then hb b1
          go_wp2
          go_ret2
          exact ⟨_, by rw [HF.out.2]; rfl, by rw [HF.out.1]; exact hown1, hb1⟩
        · have HF := hid (entsOf_none (inv_end hinv.out he))
          have hb2 : ((strL (folderText acc)).toList == s.toList) = false := by rw [hbq]; exact decide_eq_false he
          clear hbq he
          go_wp2_with fail
          refine (impl_FolderText_c _ acc _ (Rd.of_own hown) (HG.out.on hb)).mono ?_
          rintro e w1 ⟨rfl, b1⟩
          have hb1 := bl_then hb b1
          go_wp2
          go_ret2
          exact ⟨_, by rw [HF.out.2]; rfl, by rw [HF.out.1]; exact Own.nil_, hb1⟩
      · have hem : (strL R).toList.isEmpty = false := by
          rw [ByteArray.toList_eq]
          cases R with
          | nil => exact absurd rfl hR
          | cons x r => rfl
        rcases cut_ways 59 R with h59 | ⟨A, R2, hA, h59⟩
        · have HF := hid (entsOf_none (inv_no59 hinv.out hR h59))
          have H59 := hid h59
          clear h59 hR
          go_wp2_with fail
          refine (strings_Cut_no_c (strL R) 59 _ (by rw [bs_strL]; exact H59.out)).mono ?_
          rintro e w1 ⟨rfl, q1, rfl⟩
          have hb1 := bl_drewN hb q1
          rcases cut_ways 61 R with h61 | ⟨N, R3, hN, h61⟩
          · go_wp2_with fail
            refine (strings_Cut_no_c (strL R) 61 _ (by rw [bs_strL]; exact h61)).mono ?_
            rintro e w1 ⟨rfl, q2, rfl⟩
            go_wp2
            go_ret2
            exact ⟨_, by rw [HF.out.2]; rfl, by rw [HF.out.1]; exact Own.nil_, bl_drewN hb _⟩
          · have HN := hid hN
            clear hN
            go_wp2_with fail
            refine (strings_Cut_yes_c (strL R) 61 N R3 _ (by rw [bs_strL]; exact HN.out) h61 (by omega)).mono ?_
            rintro e w1 ⟨rfl, q2, rfl⟩
            go_wp2
            go_ret2
            exact ⟨_, by rw [HF.out.2]; rfl, by rw [HF.out.1]; exact Own.nil_, bl_drewN hb _⟩
        · have hl := congrArg List.length hA
          simp only [List.length_append, List.length_cons] at hl
          have HA := hid hA
          have H59 := hid h59
          have hasz := strL_size A
          clear hA h59
          rcases cut_ways 61 A with h61 | ⟨N, H, hN, h61⟩
          · have HF := hid (entsOf_none (inv_no61 hinv.out HA.out H59.out h61))
            have H61 := hid h61
            clear h61 hR
            go_wp2_with fail
            refine (strings_Cut_yes_c (strL R) 59 A R2 _ (by rw [bs_strL]; exact HA.out) H59.out (by omega)).mono ?_
            rintro e w1 ⟨rfl, q1, rfl⟩
            have hb1 := bl_drewN hb q1
            go_wp2_with fail
            refine (strings_Cut_no_c (strL A) 61 _ (by rw [bs_strL]; exact H61.out)).mono ?_
            rintro e w1 ⟨rfl, q2, rfl⟩
            go_wp2
            go_ret2
            exact ⟨_, by rw [HF.out.2]; rfl, by rw [HF.out.1]; exact Own.nil_, bl_drewN hb _⟩
          · have HN := hid hN
            have H61 := hid h61
            have HNE := hid hR
            clear hN h61 hR
            obtain ⟨al, hal⟩ : ∃ al, acc.length = al := ⟨_, rfl⟩
            obtain ⟨la, lc, rfl, hlc, _⟩ : ∃ la lc, _ = Value.slice la al lc ∧ al ≤ lc ∧ True := by
              obtain ⟨a1, c1, e1, h1, _⟩ := (Rd.of_own hown).ents hal
              exact ⟨a1, c1, e1, h1, trivial⟩
            have hb1 := bl_drewN hb
            go_wp2_with fail
            refine (strings_Cut_yes_c (strL R) 59 A R2 _ (by rw [bs_strL]; exact HA.out) H59.out (by omega)).mono ?_
            rintro e w1 ⟨rfl, q1, rfl⟩
            go_wp2_with fail
            refine (strings_Cut_yes_c (strL A) 61 N H _ (by rw [bs_strL]; exact HN.out) H61.out (by omega)).mono ?_
            rintro e w1 ⟨rfl, q2, rfl⟩
            have hb2 := bl_drewN (bl_drewN hb q1) q2
            have hown2 := (hown.drewN q1).drewN q2
            by_cases h3 : al = 3
            · have HF := hid (entsOf_none (inv_four hinv.out HNE.out (hal.trans h3)))
              have h3b : ((al : Int) == 3) = true := by rw [h3]; rfl
              clear h3
              go_wp2
              go_ret2
              exact ⟨_, by rw [HF.out.2]; rfl, by rw [HF.out.1]; exact Own.nil_, bl_drewN hb _⟩
            · have h3b : ((al : Int) == 3) = false := by simp; omega
              have HI := hid (inv_step hinv.out (by rw [← HN.out]; exact HA.out) (by rw [← HN.out]; exact H59.out) H61.out)
              have HAL := hid (show acc.length < 3 by omega)
              obtain ⟨W2, hW2⟩ : ∃ W2, W2 = (wr.drewN q1).drewN q2 := ⟨_, rfl⟩
              rw [← hW2] at hb2 hown2 ⊢
              clear hW2 hal h3
              go_wp2_with fail
              refine (impl_ReadHex_c (strL H) _ (HG.out.on hb2)).mono ?_
              rw [bs_strL]
              rintro e w4 ⟨rfl, b4⟩
              have hown4 := hown2.on b4
              have hb4 := bl_then hb2 b4
              have hB4 := hb4.size
              have hr2 := strL_size R2
              go_wp2_with (at_builtin; refine push_ent (w0 := w) rfl _ _ rfl w.heap.size w.heap.size _ acc ⟨strL N, readHex H⟩ hown4 hb4 hB4 (Nat.le_refl _) rfl rfl (by have := HAL.out; omega) ?_; intro v' w' hown' hb' hB' _)
              go_roundw
              case rel => exact ⟨R2, _, rfl, by omega, by have := HAL.out; simp; omega, hown', HI, hb'⟩
              case measure => simp only [sizeOfV]; omega
  · have HF := hid (entsOf_none (readFolder_no (l := bs s) (fun es ho ht => hpre ⟨entsText es, by rw [← ht, folder_on ho]⟩)))
    have HP := hid (show ∀ r, bs s ≠ 100 :: r from fun r e => hpre ⟨r, e⟩)
    clear hpre
    go_enter Tryd.func14, Tryd.ntmps14
    go_wp2_with fail
    refine (CutPrefix_no_c s 100 _ HP.out hs).mono ?_
    rintro e w' ⟨rfl, rfl⟩
    go_wp2
    go_ret2
    exact ⟨_, by rw [HF.out.2]; rfl, by rw [HF.out.1]; exact Own.nil_, Below.refl _ _⟩

end Go.Proofs.YtfdhaigmekmboaaDoor

/- Walks: reading folders, the reference's way. -/
namespace Go.Proofs.YtfdhaigmekmboaaDoor
open Go.RowKit

theorem inv_drop {l : List UInt8} : FoldInv l [] (l.drop 1) := by
  intro es ho ht
  rw [folder_on ho] at ht
  exact ⟨es, rfl, by rw [← ht]; rfl⟩
theorem ents_head {e : Ent} {r : List Ent} : entsText (e :: r) = bs e.name ++ 61 :: (hexT e.print ++ 59 :: entsText r) := by simp [entsText, entText]
theorem inv_noSign {l R : List UInt8} {acc : List Ent} (hi : FoldInv l acc R) (hR : R ≠ []) (h : 61 ∉ R) : readFolder l = none := by
  refine readFolder_no (fun es ho ht => ?_)
  obtain ⟨todo, he, hr⟩ := hi es ho ht
  cases todo with
  | nil => exact hR hr
  | cons e r => exact h (by rw [hr, ents_head]; simp)
theorem inv_noEnd {l R N T : List UInt8} {acc : List Ent} (hi : FoldInv l acc R) (h : R = N ++ 61 :: T) (hN : 61 ∉ N) (hT : 59 ∉ T) : readFolder l = none := by
  refine readFolder_no (fun es ho ht => ?_)
  obtain ⟨todo, he, hr⟩ := hi es ho ht
  cases todo with
  | nil => rw [hr] at h; simp [entsText] at h
  | cons e r =>
    have hoe := ents_all ho (e := e) (by rw [he]; simp)
    rw [h, ents_head] at hr
    obtain ⟨_, e2⟩ := cut_at _ _ _ _ _ hN (entText_cut hoe).1 hr
    exact hT (by rw [e2]; simp)
theorem inv_stepS {l R N H R2 : List UInt8} {acc : List Ent} (hi : FoldInv l acc R) (h : R = N ++ 61 :: (H ++ 59 :: R2)) (hN : 61 ∉ N) (hH : 59 ∉ H) : FoldInv l (acc ++ [⟨strL N, readHex H⟩]) R2 := by
  intro es ho ht
  obtain ⟨todo, he, hr⟩ := hi es ho ht
  cases todo with
  | nil => rw [hr] at h; simp [entsText] at h
  | cons e r =>
    have hoe := ents_all ho (e := e) (by rw [he]; simp)
    rw [h, ents_head] at hr
    obtain ⟨e1, e2⟩ := cut_at _ _ _ _ _ hN (entText_cut hoe).1 hr
    obtain ⟨e3, e4⟩ := cut_at _ _ _ _ _ hH (entText_cut hoe).2 e2
    refine ⟨r, ?_, e4⟩
    rw [he, List.append_assoc]
    congr 1
    rw [e1, e3, strL_bs, readHex_T (entOk_iff.1 hoe).2]
    rfl
theorem byte_ne {s : ByteArray} {k : Nat} {c d : UInt8} (h : k < s.size) (hg : (bs s)[k]? = some c) (hc : c ≠ d) : ((s[k].toNat : Int) != (d.toNat : Int)) = true := by
  rw [bs_getH s h] at hg
  have : s[k] = c := Option.some.inj hg
  rw [this]
  simp only [bne_iff_ne, ne_eq]
  intro e
  exact hc (UInt8.toNat_inj.1 (by omega))
theorem byte_eq {s : ByteArray} {k : Nat} {d : UInt8} (h : k < s.size) (hg : (bs s)[k]? = some d) : ((s[k].toNat : Int) != (d.toNat : Int)) = false := by
  rw [bs_getH s h] at hg
  have : s[k] = d := Option.some.inj hg
  rw [this]
  simp
theorem get_mid {l P N : List UInt8} {c : UInt8} {T : List UInt8} {p k : Nat} (h : l = P ++ (N ++ T)) (hP : P.length = p) (hk : p ≤ k) (hk2 : k < p + N.length) (hc : c ∉ N) : ∃ x, l[k]? = some x ∧ x ≠ c := by
  refine ⟨N[k - p]'(by omega), ?_, fun e => hc (by rw [← e]; exact List.getElem_mem _)⟩
  rw [h, List.getElem?_append_right (by omega), List.getElem?_append_left (by omega), hP, List.getElem?_eq_getElem (by omega)]
theorem get_at {l P N : List UInt8} {c : UInt8} {T : List UInt8} {p : Nat} (h : l = P ++ (N ++ c :: T)) (hP : P.length = p) : l[p + N.length]? = some c := by
  rw [h, List.getElem?_append_right (by omega), List.getElem?_append_right (by omega), hP, show p + N.length - p - N.length = 0 by omega]
  rfl
/-- Where a byte is first: behind so many others, or nowhere. -/
theorem scan {l P R : List UInt8} {p : Nat} (c : UInt8) (h : l = P ++ R) (hP : P.length = p) : ∃ q, p ≤ q ∧ q ≤ l.length ∧ (∀ k, p ≤ k → k < q → ∃ x, l[k]? = some x ∧ x ≠ c) ∧
    ((q = l.length ∧ c ∉ R) ∨ ∃ N T, R = N ++ c :: T ∧ c ∉ N ∧ q = p + N.length ∧ l[q]? = some c) := by
  rcases cut_ways c R with hn | ⟨N, T, e, hn⟩
  · refine ⟨l.length, by rw [h]; simp; omega, Nat.le_refl _, fun k h1 h2 => get_mid (N := R) (T := []) (by simpa using h) hP h1 (by rw [h] at h2; simp at h2; omega) hn, .inl ⟨rfl, hn⟩⟩
  · refine ⟨p + N.length, by omega, by rw [h, e]; simp; omega, fun k h1 h2 => get_mid (T := c :: T) (by rw [h, e]) hP h1 h2 hn, .inr ⟨N, T, e, hn, rfl, get_at (by rw [h, e]) hP⟩⟩
theorem mid1 {l P N T : List UInt8} {p : Nat} (h : l = P ++ (N ++ T)) (hP : P.length = p) : (l.take (p + N.length)).drop p = N := by
  rw [h, ← List.append_assoc, List.take_left' (by simp [hP]), List.drop_left' hP]
theorem end1 {l P N T : List UInt8} {p : Nat} (h : l = P ++ (N ++ T)) (hP : P.length = p) : l.drop (p + N.length) = T := by
  rw [h, ← List.append_assoc, List.drop_left' (by simp [hP])]

theorem spec_ReadHex_e (s : ByteArray) (w : World) {x : Int} (hs : s.size ≤ 4611686018427387904) (h : readHex (bs s) = x) :
    Calls Tryd.prog 54 #[.string s] w fun e w' => e = .returned (.int .i64 x) ∧ w = w' := h ▸ spec_ReadHex_c s w hs

set_option maxHeartbeats 2000000 in
set_option maxRecDepth 100000 in
theorem spec_ReadFolder_c (s : ByteArray) (w : World) (hs : s.size ≤ 1000000) :
    Calls Tryd.prog 31 #[.string s] w fun e w' => ∃ v', e = .returned (.tuple #[v', .bool (readFolder (bs s)).isSome]) ∧ OwnE w' w.heap.size v' (entsOf (bs s)) ∧ Below w.heap.size w w' := by
  have hal : Below w.heap.size w (w.alloc (.cells #[] 37)) := (Below.refl _ _).alloc (Nat.le_refl _) _
  have hown0 : OwnE (w.alloc (.cells #[] 37)) w.heap.size (.slice (some ⟨w.heap.size, 0, none⟩) 0 0) [] := Own.made _ (Nat.le_refl _)
  have hbl := bs_lenH s
  go_enter Tryd.func31, Tryd.ntmps31
  go_wp2
  go_loopw [4, 5] (fun lv pv wr => ∃ (p : Nat) (acc : List Ent), pv = .int .i64 p ∧ 1 ≤ p ∧ p ≤ s.size + 1 ∧ acc.length ≤ p ∧ OwnE wr w.heap.size lv acc ∧ Hid (FoldInv (bs s) acc ((bs s).drop p) ∧ ∀ x ∈ acc, x.name.size ≤ 1048576) ∧ Below w.heap.size w wr) (fun _ pv _ => s.size + 1 - (intOf pv).toNat)
  case atStart => exact ⟨1, [], rfl, Nat.le_refl _, by omega, by simp, hown0, hid ⟨inv_drop, by simp⟩, hal⟩
  case round =>
    obtain ⟨p, acc, rfl, hp1, hp2, hacc, hown, hinv, hb⟩ := hrel
    clear hown0 hal
    by_cases hlt : p < s.size
    · obtain ⟨R, hR⟩ : ∃ R, (bs s).drop p = R := ⟨_, rfl⟩
      obtain ⟨P, hP⟩ : ∃ P, (bs s).take p = P := ⟨_, rfl⟩
      have hsp : bs s = P ++ R := by rw [← hR, ← hP, List.take_append_drop]
      have hPl : P.length = p := by rw [← hP, List.length_take]; omega
      have hRn : R ≠ [] := fun e => by have := congrArg List.length hR; rw [e] at this; simp at this; omega
      have HI := hid (show FoldInv (bs s) acc R by rw [← hR]; exact hinv.out.1)
      have HRN := hid hRn
      obtain ⟨q, hpq, hqs, hscan, hway⟩ := scan 61 hsp hPl
      rw [hbl] at hqs
      have HS := hid hscan
      have HW := hid hway
      have HSP := hid (And.intro hsp hPl)
      clear hscan hway hR hRn hsp hPl hP
      go_wp2
      go_loop [6] (fun i => ∃ k : Nat, p ≤ k ∧ k ≤ q ∧ i = .int .i64 k) (fun i => s.size - (intOf i).toNat)
      case atStart => exact ⟨p, Nat.le_refl _, hpq, rfl⟩
      case round =>
        obtain ⟨k, hk1, hk2, rfl⟩ := hrel
        by_cases hkq : k < q
        · obtain ⟨x, hx, hxc⟩ := HS.out k hk1 hkq
          have hks : k < s.size := by omega
          have hbn := byte_ne hks hx hxc
          have hbn' : ((s[k].toNat : Int) != 61) = true := hbn
          clear hx hxc hbn
          go_wp2
          go_round
          case rel => exact ⟨k + 1, by omega, by omega, by go_num⟩
          case measure => simp [intOf]; omega
        · obtain rfl : k = q := by omega
          rcases HW.out with ⟨hqe, hn61⟩ | ⟨N, T, hRe, hn61, hqe, hget⟩
          · -- no sign
            have hks : k = s.size := by rw [hqe, hbl]
            have hkn : ¬ k < s.size := by omega
            have hke : ((k : Int) == (s.size : Int)) = true := by rw [hks]; simp
            have HF := hid (entsOf_none (inv_noSign HI.out HRN.out hn61))
            clear hqe hn61 hks
            go_wp2
            refine wp_loop_rounds 1 ?_
            rw [rounds_succ]
            go_wp2
            go_ret2
            exact ⟨_, by rw [HF.out.2]; rfl, by rw [HF.out.1]; exact Own.made _ hb.size, hb.alloc hb.size _⟩
          · have hks : k < s.size := by have := (List.getElem?_eq_some_iff.1 hget).1; omega
            have hbe := byte_eq hks hget
            have hbe' : ((s[k].toNat : Int) != 61) = false := hbe
            have hTl := congrArg List.length hRe
            obtain ⟨e, hke, hes, hscan2, hway2⟩ := scan 59 (l := bs s) (P := P ++ (N ++ [61])) (R := T) (p := k + 1) (by rw [HSP.out.1]; simp [hRe]) (by rw [List.length_append, HSP.out.2]; simp; omega)
            rw [hbl] at hes
            have HS2 := hid hscan2
            have HW2 := hid hway2
            have HRE := hid (And.intro hRe (And.intro hn61 hqe))
            clear hbe hget hTl hscan2 hway2 hRe hn61 hqe
            go_wp2
            go_loop [7] (fun i => ∃ j : Nat, k ≤ j ∧ j ≤ e ∧ i = .int .i64 j) (fun i => s.size - (intOf i).toNat)
            case atStart => exact ⟨k, Nat.le_refl _, by omega, rfl⟩
            case round =>
              obtain ⟨j, hj1, hj2, rfl⟩ := hrel
              by_cases hje : j < e
              · have hjs : j < s.size := by omega
                have hbn' : ((s[j].toNat : Int) != 59) = true := by
                  by_cases hjk : j = k
                  · subst hjk
                    have hx61 : (s[j].toNat : Int) = 61 := by simpa using hbe'
                    rw [hx61]; rfl
                  · obtain ⟨x, hx, hxc⟩ := HS2.out j (by omega) hje
                    exact byte_ne hjs hx hxc
                clear hbe'
                go_wp2
                go_round
                case rel => exact ⟨j + 1, by omega, by omega, by go_num⟩
                case measure => simp [intOf]; omega
              · obtain rfl : j = e := by omega
                rcases HW2.out with ⟨hee, hn59⟩ | ⟨H, R2, hTe, hn59, hee, hget⟩
                · have hjs : j = s.size := by rw [hee, hbl]
                  have hjn : ¬ j < s.size := by omega
                  have hje2 : ((j : Int) == (s.size : Int)) = true := by rw [hjs]; simp
                  have HF := hid (entsOf_none (inv_noEnd HI.out HRE.out.1 HRE.out.2.1 hn59))
                  clear hee hn59 hjs
                  go_wp2
                  go_ret2
                  exact ⟨_, by rw [HF.out.2]; rfl, by rw [HF.out.1]; exact Own.made _ hb.size, hb.alloc hb.size _⟩
                · have hjs : j < s.size := by have := (List.getElem?_eq_some_iff.1 hget).1; omega
                  have hbe2 := byte_eq hjs hget
                  have hbe3 : ((s[j].toNat : Int) != 59) = false := hbe2
                  have hje2 : ((j : Int) == (s.size : Int)) = false := by simp; omega
                  have hsp : bs s = P ++ (N ++ 61 :: (H ++ 59 :: R2)) := by rw [← hTe, ← HRE.out.1]; exact HSP.out.1
                  have hsp2 : bs s = (P ++ (N ++ [61])) ++ (H ++ 59 :: R2) := by rw [hsp]; simp
                  have hsp3 : bs s = (P ++ (N ++ [61])) ++ ((H ++ [59]) ++ R2) := by rw [hsp]; simp
                  have hPl := HSP.out.2
                  have hPl2 : (P ++ (N ++ [61])).length = k + 1 := by rw [List.length_append, hPl]; simp; have := HRE.out.2.2; omega
                  have x1 : s.extract p k = strL N := by rw [ext_strL, HRE.out.2.2, mid1 hsp hPl]
                  have x2 : s.extract (k + 1) j = strL H := by rw [ext_strL, hee, mid1 hsp2 hPl2]
                  have hR2 : (bs s).drop (j + 1) = R2 := by rw [hee, show k + 1 + H.length + 1 = k + 1 + (H ++ [59]).length by simp; omega, end1 hsp3 hPl2]
                  have hHl := strL_size H
                  have hNl := strL_size N
                  have hHs : H.length ≤ 1000000 := by omega
                  have hNs : N.length ≤ 1000000 := by have := HRE.out.2.2; omega
                  have HST := hid (inv_stepS HI.out (by rw [HRE.out.1, hTe]) HRE.out.2.1 hn59)
                  obtain ⟨z, hz⟩ : ∃ z, readHex H = z := ⟨_, rfl⟩
                  have HZ := hid (show readHex (bs (strL H)) = z by rw [bs_strL]; exact hz)
                  rw [hz] at HST
                  have HR2 := hid hR2
                  have HNS := hid hNs
                  have HACC := hid hinv.out.2
                  have HHS := hid (show (strL H).size ≤ 4611686018427387904 by omega)
                  have hkj : (k : Int) + 1 ≤ (j : Int) := by omega
                  have hjs2 : (j : Int) ≤ s.size := by omega
                  have hpk2 : (p : Int) ≤ (k : Int) := by omega
                  have hks2 : (k : Int) ≤ s.size := by omega
                  clear hsp hsp2 hsp3 hPl hPl2 hR2 hTe hn59 hget hbe2 hz hee hNl hHs hNs hHl
                  go_wp2
                  refine wp_region_early (n := 12) _ rfl rfl (by kernel_rfl) (by kernel_rfl) (fun _ _ _ _ h => h) ?_
                  simp only [List.take_succ_cons, List.take_zero, List.drop_succ_cons, List.drop_zero, Act.put, Act.eval, List.setIfInBounds_toArray, List.set_cons_succ, List.set_cons_zero]
                  repeat (go_big_quiet_step ((go_at_call 54; exact qsame (spec_ReadHex_e _ _ HHS.out HZ.out))))
                  refine wpQuiet_nil ?_
                  intro m
                  have hownm := hown.drewN m
                  have hbm := bl_drewN hb m
                  have hBm := hbm.size
                  go_wp2_with (at_builtin; refine push_ent (w0 := w) rfl _ _ rfl w.heap.size w.heap.size _ acc ⟨strL N, z⟩ hownm hbm hBm (Nat.le_refl _) rfl rfl (by omega) ?_; intro v' w' hown' hb' hB' _)
                  go_roundw
                  case rel =>
                    refine ⟨j + 1, _, by go_num, by omega, by omega, by simp; omega, hown', hid ⟨by rw [HR2.out]; exact HST.out, ?_⟩, hb'⟩
                    intro x hx
                    rcases List.mem_append.1 hx with hx | hx
                    · exact HACC.out x hx
                    · obtain rfl : x = ⟨strL N, z⟩ := by simpa using hx
                      have := HNS.out
                      have h2 := strL_size N
                      simp only; omega
                  case measure => simp [intOf]; omega
    · have hdr : (bs s).drop p = [] := List.drop_of_length_le (by omega)
      have HI := hid (show FoldInv (bs s) acc [] by rw [← hdr]; exact hinv.out.1)
      have HACC := hid hinv.out.2
      have hbq := str_beq s (folderText acc)
      have hal1 : acc.length ≤ 1048576 := by omega
      have HL1 := hid hal1
      clear hdr
      by_cases he : folderText acc = bs s
      · by_cases h0 : s.size = 0
        · have hnil : bs s = [] := List.eq_nil_of_length_eq_zero (by rw [hbl]; exact h0)
          have HF := hid (entsOf_none (readFolder_no (l := bs s) (fun es ho ht => by rw [folder_on ho, hnil] at ht; cases ht)))
          have hb2 : ((strL (folderText acc)).toList == s.toList) = true := by rw [hbq]; exact decide_eq_true he
          have hem : s.toList.isEmpty = true := by rw [ByteArray.toList_eq, show s.data.toList = [] from hnil]; rfl
          clear hbq he hnil h0
          go_wp2_with fail
          refine (spec_FolderText_c _ acc _ _ (Rd.of_own hown) HACC.out HL1.out).mono ?_
          rintro e w1 ⟨rfl, q1, rfl⟩
          have hb1 := bl_drewN hb q1
          go_wp2
          go_ret2
          exact ⟨_, by rw [HF.out.2]; rfl, by rw [HF.out.1]; exact Own.made _ hb1.size, hb1.alloc hb1.size _⟩
        · have hne : bs s ≠ [] := fun e => h0 (by rw [← hbl, e]; rfl)
          have HF := hid (entsOf_some (inv_yes he hne))
          have hb2 : ((strL (folderText acc)).toList == s.toList) = true := by rw [hbq]; exact decide_eq_true he
          have hem : s.toList.isEmpty = false := by
            rw [ByteArray.toList_eq]
            cases hd : s.data.toList with
            | nil => exact absurd hd hne
            | cons x r => rfl
          clear hbq he hne h0
          go_wp2_with fail
          refine (spec_FolderText_c _ acc _ _ (Rd.of_own hown) HACC.out HL1.out).mono ?_
          rintro e w1 ⟨rfl, q1, rfl⟩
          have hb1 := bl_drewN hb q1
          have hown1 := hown.drewN q1
          go_wp2
          go_ret2
          exact ⟨_, by rw [HF.out.2]; rfl, by rw [HF.out.1]; exact hown1, hb1⟩
      · have HF := hid (entsOf_none (inv_end HI.out he))
        have hb2 : ((strL (folderText acc)).toList == s.toList) = false := by rw [hbq]; exact decide_eq_false he
        clear hbq he
        go_wp2_with fail
        refine (spec_FolderText_c _ acc _ _ (Rd.of_own hown) HACC.out HL1.out).mono ?_
        rintro e w1 ⟨rfl, q1, rfl⟩
        have hb1 := bl_drewN hb q1
        go_wp2
        go_ret2
        exact ⟨_, by rw [HF.out.2]; rfl, by rw [HF.out.1]; exact Own.made _ hb1.size, hb1.alloc hb1.size _⟩

end Go.Proofs.YtfdhaigmekmboaaDoor

/- Plain facts on texts that are put into stores. No program in sight. -/
namespace Go.Proofs.YtfdhaigmekmboaaDoor
open Go.RowKit

theorem getP_no {l : List Pc} {n : Int} (h : getP l n = none) : ∀ x ∈ l, x.print ≠ n := by
  intro x hx he
  have : hasP l n = true := hasP_iff.2 ⟨x, hx, he⟩
  unfold hasP at this
  rw [h] at this
  cases this
theorem st_find {l : List Pc} {n : Int} (h : storeOk l = true) (hh : hasP l n = true) : ∃ x : Pc, l[findAt l n]? = some x ∧ getP l n = some x.text ∧ x.print = n := by
  cases hg : l[findAt l n]? with
  | none =>
    exfalso
    have := find_no (l := l) (n := n) (st_asc h) (fun z hz => by rw [hg] at hz; cases hz)
    unfold hasP at hh
    rw [this] at hh
    cases hh
  | some z =>
    by_cases hz : z.print = n
    · exact ⟨z, rfl, find_has (st_asc h) hg hz, hz⟩
    · exfalso
      have := find_no (l := l) (n := n) (st_asc h) (fun z' hz' => by rw [hg] at hz'; rw [← Option.some.inj hz']; exact hz)
      unfold hasP at hh
      rw [this] at hh
      cases hh

/-- A row with a piece in its place. -/
def insP (l : List Pc) (p : Int) (t : ByteArray) : List Pc := l.take (findAt l p) ++ ⟨p, t⟩ :: l.drop (findAt l p)
theorem insP_len (l : List Pc) (p : Int) (t : ByteArray) : (insP l p t).length = l.length + 1 := by
  have := findAt_le l p
  simp [insP]; omega
theorem insP_mem {l : List Pc} {p : Int} {t : ByteArray} {x : Pc} : x ∈ insP l p t ↔ x ∈ l ∨ x = ⟨p, t⟩ := by
  unfold insP
  rw [List.mem_append, List.mem_cons]
  constructor
  · rintro (h | h | h)
    · exact .inl (List.mem_of_mem_take h)
    · exact .inr h
    · exact .inl (List.mem_of_mem_drop h)
  · rintro (h | h)
    · rw [← List.take_append_drop (findAt l p) l, List.mem_append] at h
      rcases h with h | h
      · exact .inl h
      · exact .inr (.inr h)
    · exact .inr (.inl h)
theorem insP_asc {l : List Pc} {p : Int} {t : ByteArray} (ha : l.Pairwise (fun a b => a.print < b.print)) (hn : getP l p = none) : (insP l p t).Pairwise (fun a b => a.print < b.print) := by
  have h1 : ∀ a ∈ l.take (findAt l p), a.print < p := by
    intro a hm
    obtain ⟨j, hj, e⟩ := List.getElem_of_mem hm
    have hj' : j < findAt l p := by simp at hj; omega
    have hg : l[j]? = some a := by
      rw [← List.getElem?_take_of_lt hj', List.getElem?_eq_getElem hj, e]
    exact findAt_below hj' hg
  have h2 : ∀ b ∈ l.drop (findAt l p), p < b.print := by
    intro b hm
    obtain ⟨j, hj, e⟩ := List.getElem_of_mem hm
    have hg : l[findAt l p + j]? = some b := by rw [← List.getElem?_drop, List.getElem?_eq_getElem hj, e]
    obtain ⟨y, hy⟩ : ∃ y, l[findAt l p]? = some y := ⟨l[findAt l p]'(by have := (List.getElem?_eq_some_iff.1 hg).1; omega), List.getElem?_eq_getElem _⟩
    have h3 := findAt_at hy
    have h4 := getP_no hn b (List.mem_of_getElem? hg)
    rcases Nat.eq_zero_or_pos j with h0 | h0
    · subst h0
      rw [Nat.add_zero, hy] at hg
      have := Option.some.inj hg
      subst this
      omega
    · have := asc_get ha hy hg (by omega)
      omega
  unfold insP
  rw [List.pairwise_append]
  refine ⟨ha.sublist (List.take_sublist _ _), List.Pairwise.cons h2 (ha.sublist (List.drop_sublist _ _)), ?_⟩
  intro a hma b hmb
  rcases List.mem_cons.1 hmb with rfl | hmb
  · exact h1 a hma
  · have := h1 a hma; have := h2 b hmb; omega

/-- A store behind a put text, the print, and whether it was put. -/
def putS (l : List Pc) (t : ByteArray) : List Pc × Int × Bool :=
  if storeOk l then
    if textOk (bs t) then
      match getP l (printOf (bs t)) with
      | some u => if u = t then (l, printOf (bs t), true) else (l, -1, false)
      | none => if l.length = 40 then (l, -1, false) else (insP l (printOf (bs t)) t, printOf (bs t), true)
    else (l, -1, false)
  else ([], -1, false)
theorem put_off {l : List Pc} {t : ByteArray} (h : storeOk l = false) : putS l t = ([], -1, false) := by unfold putS; rw [h]; rfl
theorem put_bad {l : List Pc} {t : ByteArray} (h : storeOk l = true) (ht : textOk (bs t) = false) : putS l t = (l, -1, false) := by unfold putS; rw [h, ht]; rfl
theorem put_there {l : List Pc} {t : ByteArray} (h : storeOk l = true) (ht : textOk (bs t) = true) (hg : getP l (printOf (bs t)) = some t) : putS l t = (l, printOf (bs t), true) := by unfold putS; rw [h, ht, hg]; simp
theorem put_other {l : List Pc} {t u : ByteArray} (h : storeOk l = true) (ht : textOk (bs t) = true) (hg : getP l (printOf (bs t)) = some u) (hu : u ≠ t) : putS l t = (l, -1, false) := by unfold putS; rw [h, ht, hg]; simp [hu]
theorem put_full {l : List Pc} {t : ByteArray} (h : storeOk l = true) (ht : textOk (bs t) = true) (hg : getP l (printOf (bs t)) = none) (hl : l.length = 40) : putS l t = (l, -1, false) := by unfold putS; rw [h, ht, hg]; simp [hl]
theorem put_new {l : List Pc} {t : ByteArray} (h : storeOk l = true) (ht : textOk (bs t) = true) (hg : getP l (printOf (bs t)) = none) (hl : l.length ≠ 40) : putS l t = (insP l (printOf (bs t)) t, printOf (bs t), true) := by unfold putS; rw [h, ht, hg]; simp [hl]
theorem put_cases {l : List Pc} {t : ByteArray} (h : storeOk l = true) :
    (putS l t = (l, -1, false)) ∨ (textOk (bs t) = true ∧ getP l (printOf (bs t)) = some t ∧ putS l t = (l, printOf (bs t), true)) ∨
    (textOk (bs t) = true ∧ getP l (printOf (bs t)) = none ∧ l.length < 40 ∧ putS l t = (insP l (printOf (bs t)) t, printOf (bs t), true)) := by
  cases ht : textOk (bs t)
  · exact .inl (put_bad h ht)
  · cases hg : getP l (printOf (bs t)) with
    | some u =>
      by_cases hu : u = t
      · subst hu; exact .inr (.inl ⟨rfl, rfl, put_there h ht hg⟩)
      · exact .inl (put_other h ht hg hu)
    | none =>
      by_cases hl : l.length = 40
      · exact .inl (put_full h ht hg hl)
      · have := (st_in h).1
        exact .inr (.inr ⟨rfl, rfl, by omega, put_new h ht hg hl⟩)
theorem put_ok {l : List Pc} {t : ByteArray} (h : storeOk l = true) : storeOk (putS l t).1 = true := by
  rcases put_cases (t := t) h with e | ⟨_, _, e⟩ | ⟨ht, hg, hl, e⟩
  · rw [e]; exact h
  · rw [e]; exact h
  · rw [e]
    refine st_iff.2 ⟨by rw [insP_len]; omega, fun x hx => ?_, insP_asc (st_asc h) hg⟩
    rcases insP_mem.1 hx with hx | rfl
    · exact st_all h hx
    · exact pcOk_iff.2 ⟨ht, rfl⟩
/-- What was put has the text's print. -/
theorem put_print {l : List Pc} {t : ByteArray} (h : (putS l t).2.2 = true) : textOk (bs t) = true ∧ (putS l t).2.1 = printOf (bs t) := by
  cases hs : storeOk l
  · rw [put_off hs] at h; cases h
  · rcases put_cases (t := t) hs with e | ⟨ht, _, e⟩ | ⟨ht, _, _, e⟩
    · rw [e] at h; cases h
    · rw [e]; exact ⟨ht, rfl⟩
    · rw [e]; exact ⟨ht, rfl⟩

def takeStep (ps : List Int) (s : List Pc × Nat) (t : ByteArray) : List Pc × Nat := if (putS s.1 t).2.2 && hasI ps (putS s.1 t).2.1 then ((putS s.1 t).1, s.2) else (s.1, s.2 + 1)
def takeFrom (l : List Pc) (ps : List Int) (ts : List ByteArray) : List Pc × Nat := ts.foldl (takeStep ps) (l, 0)
def takeTexts (l : List Pc) (ps : List Int) (ts : List ByteArray) : List Pc × Int := if storeOk l then ((takeFrom l ps ts).1, ((takeFrom l ps ts).2 : Int)) else ([], -1)
theorem takeFrom_succ {l : List Pc} {ps : List Int} {ts : List ByteArray} {k : Nat} {t : ByteArray} (h : ts[k]? = some t) : takeFrom l ps (ts.take (k + 1)) = takeStep ps (takeFrom l ps (ts.take k)) t := foldl_succ _ _ h
theorem takeStep_ok {ps : List Int} {s : List Pc × Nat} {t : ByteArray} (h : storeOk s.1 = true) : storeOk (takeStep ps s t).1 = true := by
  unfold takeStep
  split
  · exact put_ok h
  · exact h
theorem takeStep_le {ps : List Int} {s : List Pc × Nat} {t : ByteArray} : (takeStep ps s t).2 ≤ s.2 + 1 := by
  unfold takeStep
  split <;> simp
theorem takes_ok {ps : List Int} : ∀ (ts : List ByteArray) (s : List Pc × Nat), storeOk s.1 = true → storeOk (ts.foldl (takeStep ps) s).1 = true
  | [], _, h => h
  | _ :: r, _, h => takes_ok r _ (takeStep_ok h)

end Go.Proofs.YtfdhaigmekmboaaDoor

/- Plain facts on files, folders and paths that are written. No program in sight. -/
namespace Go.Proofs.YtfdhaigmekmboaaDoor
open Go.RowKit

def contOk (l : List UInt8) : Bool := textOk l && decide (l.length ≤ 40)
def fileText (l : List UInt8) : List UInt8 := if contOk l then 102 :: l else []
def isFile (l : List UInt8) : Bool := match l with | [] => false | c :: r => decide (c = 102) && contOk r
noncomputable def kindOf (l : List UInt8) : Int := if isFile l then 1 else if (readFolder l).isSome then 2 else 0

/-! ### Entries -/
/-- How many entries have a smaller name, from the first on. -/
def entAt (l : List Ent) (nm : ByteArray) : Nat := (l.takeWhile fun x => ltN x.name nm).length
def isNm (l : List Ent) (nm : ByteArray) (k : Nat) : Bool := match l[k]? with | some x => decide (x.name = nm) | none => false
def putE (l : List Ent) (e : Ent) : List Ent := (l.take (entAt l e.name) ++ [e]) ++ (if isNm l e.name (entAt l e.name) then l.drop (entAt l e.name + 1) else l.drop (entAt l e.name))
def putEnt (l : List Ent) (e : Ent) : List Ent × Bool := if entsOk l then (if entsOk (putE l e) then (putE l e, true) else (l, false)) else ([], false)
def dropE (l : List Ent) (nm : ByteArray) : List Ent := l.filter fun x => !decide (x.name = nm)
def dropEnt (l : List Ent) (nm : ByteArray) : List Ent × Bool := if entsOk l then (dropE l nm, decide ((dropE l nm).length < l.length)) else ([], false)
/-- The print that a name has last; -1 for none. -/
def childOf (l : List Ent) (nm : ByteArray) : Int := l.foldl (fun c e => if e.name = nm then e.print else c) (-1)
/-- The print that a name has first. -/
def firstOf (l : List Ent) (nm : ByteArray) : Option Int := (l.find? fun e => decide (e.name = nm)).map (·.print)
theorem tw_all {α : Type} (p : α → Bool) : ∀ (l : List α) (x : α), x ∈ l.takeWhile p → p x = true
  | [], x, h => by simp at h
  | a :: r, x, h => by
    rw [List.takeWhile_cons] at h
    split at h
    · rename_i ha
      rcases List.mem_cons.1 h with rfl | h
      · exact ha
      · exact tw_all p r x h
    · simp at h
theorem entAt_le (l : List Ent) (nm : ByteArray) : entAt l nm ≤ l.length := by
  unfold entAt
  have := (List.takeWhile_sublist (fun x : Ent => ltN x.name nm) (l := l)).length_le
  exact this
theorem entAt_below {l : List Ent} {nm : ByteArray} {j : Nat} {x : Ent} (hj : j < entAt l nm) (h : l[j]? = some x) : ltN x.name nm = true := by
  unfold entAt at hj
  have h1 : (l.takeWhile fun x => ltN x.name nm)[j]? = some x := by
    have := List.takeWhile_prefix (fun x : Ent => ltN x.name nm) (l := l)
    obtain ⟨t, ht⟩ := this
    rw [← ht] at h
    rw [List.getElem?_append_left hj] at h
    exact h
  exact tw_all _ l x (List.mem_of_getElem? h1)
theorem entAt_stop {l : List Ent} {nm : ByteArray} {k : Nat} (hk : k ≤ l.length) (h1 : ∀ j x, j < k → l[j]? = some x → ltN x.name nm = true) (h2 : ∀ x, l[k]? = some x → ltN x.name nm = false) : entAt l nm = k := by
  unfold entAt
  exact takeWhile_len _ l k hk h1 h2
theorem putE_len (l : List Ent) (e : Ent) : (putE l e).length ≤ l.length + 1 := by
  have := entAt_le l e.name
  unfold putE
  split <;> simp <;> omega
theorem putEnt_len {l : List Ent} {e : Ent} : (putEnt l e).1.length ≤ 3 := by
  unfold putEnt
  split
  · rename_i h
    split
    · rename_i h2
      exact (ents_in h2).1
    · exact (ents_in h).1
  · simp
theorem dropE_len (l : List Ent) (nm : ByteArray) : (dropE l nm).length ≤ l.length := List.length_filter_le _ _

/-! ### Paths -/
def splitStep (out : List (List UInt8)) (c : UInt8) : List (List UInt8) := if c = 47 then out ++ [[]] else if out = [] then [] else out.dropLast ++ [(out.getLastD []) ++ [c]]
def splitP (l : List UInt8) : List (List UInt8) := l.foldl splitStep []
def joinP (ws : List (List UInt8)) : List UInt8 := if ws = [] then [47] else if ws.length ≤ 3 ∧ ws.all wordOk = true then ws.flatMap (fun x => 47 :: x) else []
def pathParts (l : List UInt8) : Option (List (List UInt8)) := if l = [47] then some [] else if l ≠ [] ∧ joinP (splitP l) = l then some (splitP l) else none
theorem pathParts_in {l : List UInt8} {ws : List (List UInt8)} (h : pathParts l = some ws) : ws.length ≤ 3 ∧ (∀ x ∈ ws, wordOk x = true) ∧ joinP ws = l := by
  unfold pathParts at h
  split at h
  · rename_i h1
    obtain rfl := Option.some.inj h
    exact ⟨by simp, by simp, by rw [h1]; rfl⟩
  · split at h
    · rename_i h1 h2
      obtain rfl := Option.some.inj h
      obtain ⟨h3, h4⟩ := h2
      have h5 := h4
      unfold joinP at h4
      split at h4
      · rename_i h6
        rw [h6] at h5
        exact absurd h5.symm h1
      · split at h4
        · rename_i h7
          exact ⟨h7.1, fun x hx => List.all_eq_true.1 h7.2 x hx, h5⟩
        · exact absurd h4.symm h3
    · cases h

/-! ### Stores -/
noncomputable def textAt (l : List Pc) (pr : Int) : List UInt8 := bs ((getP l pr).getD ByteArray.empty)
noncomputable def badLeaf (l : List Pc) (ch : Int) : Bool := !hasP l ch || decide (kindOf (textAt l ch) ≠ 1)
noncomputable def setAt : List Pc → Int → List ByteArray → Int → List Pc × Int × Bool
  | s, _, [], leaf => (s, leaf, true)
  | s, pr, nm :: rest, leaf =>
    match (if 0 ≤ pr then readFolder (textAt s pr) else some []) with
    | none => (s, -1, false)
    | some es =>
      if rest = [] ∧ 0 ≤ childOf es nm ∧ badLeaf s (childOf es nm) = true then (s, -1, false)
      else if (setAt s (childOf es nm) rest leaf).2.2 = false then ((setAt s (childOf es nm) rest leaf).1, -1, false)
      else if (putEnt es ⟨nm, (setAt s (childOf es nm) rest leaf).2.1⟩).2 = false then ((setAt s (childOf es nm) rest leaf).1, -1, false)
      else putS (setAt s (childOf es nm) rest leaf).1 (strL (folderText (putEnt es ⟨nm, (setAt s (childOf es nm) rest leaf).2.1⟩).1))
/-- A folder's entries without a name, or with another print for it. -/
def leftE (es : List Ent) (nm : ByteArray) (left : Int) : List Ent := if 0 ≤ left then (putEnt es ⟨nm, left⟩).1 else (dropEnt es nm).1
def dropEnd (t : List Pc) (es : List Ent) : List Pc × Int × Bool := if es = [] then (t, -1, true) else putS t (strL (folderText es))
noncomputable def dropIn : List Pc → Int → List ByteArray → List Pc × Int × Bool
  | s, _, [] => (s, -1, false)
  | s, pr, nm :: rest =>
    if childOf (entsOf (textAt s pr)) nm < 0 then (s, -1, false)
    else if rest = [] then dropEnd s (leftE (entsOf (textAt s pr)) nm (-1))
    else if (dropIn s (childOf (entsOf (textAt s pr)) nm) rest).2.2 = false then (s, -1, false)
    else dropEnd (dropIn s (childOf (entsOf (textAt s pr)) nm) rest).1 (leftE (entsOf (textAt s pr)) nm (dropIn s (childOf (entsOf (textAt s pr)) nm) rest).2.1)
noncomputable def walkAt : List Pc → Int → List ByteArray → Int × Bool
  | s, pr, [] => if hasP s pr then (pr, true) else (-1, false)
  | s, pr, nm :: rest => match firstOf (entsOf (textAt s pr)) nm with | some ch => walkAt s ch rest | none => (-1, false)
noncomputable def emptyRoot (s : List Pc) : List Pc × Int × Bool := putS s (strL (folderText []))
noncomputable def writeAt (s : List Pc) (root : Int) (path content : List UInt8) : List Pc × Int × Bool :=
  match pathParts path with
  | none => ([], -1, false)
  | some ws =>
    if storeOk s = false ∨ ws = [] ∨ contOk content = false then ([], -1, false)
    else if hasP s root = false then (s, root, false)
    else if (setAt s root (ws.map strL) (printOf (fileText content))).2.2 = false then (s, root, false)
    else if (putS (setAt s root (ws.map strL) (printOf (fileText content))).1 (strL (fileText content))).2.2 = false then (s, root, false)
    else ((putS (setAt s root (ws.map strL) (printOf (fileText content))).1 (strL (fileText content))).1, (setAt s root (ws.map strL) (printOf (fileText content))).2.1, true)
noncomputable def dropTo (s : List Pc) (root : Int) (ws : List ByteArray) : List Pc × Int × Bool :=
  if (dropIn s root ws).2.2 = true ∧ (dropIn s root ws).2.1 < 0 then emptyRoot (dropIn s root ws).1 else dropIn s root ws
noncomputable def dropAt (s : List Pc) (root : Int) (path : List UInt8) : List Pc × Int × Bool :=
  match pathParts path with
  | none => ([], -1, false)
  | some ws =>
    if storeOk s = false ∨ ws = [] then ([], -1, false)
    else if (walkAt s root (ws.map strL)).2 = false then (s, root, false)
    else if (dropTo s root (ws.map strL)).2.2 = false then (s, root, false)
    else ((dropTo s root (ws.map strL)).1, (dropTo s root (ws.map strL)).2.1, true)

/-! ### What is put stays a store -/
theorem set_ok : ∀ (parts : List ByteArray) (s : List Pc) (pr leaf : Int), storeOk s = true → storeOk (setAt s pr parts leaf).1 = true
  | [], s, pr, leaf, h => h
  | nm :: rest, s, pr, leaf, h => by
    unfold setAt
    split
    · exact h
    · rename_i es _
      have ih := set_ok rest s (childOf es nm) leaf h
      split
      · exact h
      · split
        · exact ih
        · split
          · exact ih
          · exact put_ok ih
theorem dropEnd_ok {t : List Pc} (es : List Ent) (h : storeOk t = true) : storeOk (dropEnd t es).1 = true := by
  unfold dropEnd
  split
  · exact h
  · exact put_ok h
theorem dropIn_ok : ∀ (parts : List ByteArray) (s : List Pc) (pr : Int), storeOk s = true → storeOk (dropIn s pr parts).1 = true
  | [], s, pr, h => h
  | nm :: rest, s, pr, h => by
    unfold dropIn
    have ih := dropIn_ok rest s (childOf (entsOf (textAt s pr)) nm) h
    split
    · exact h
    · split
      · exact dropEnd_ok _ h
      · split
        · exact h
        · exact dropEnd_ok _ ih

end Go.Proofs.YtfdhaigmekmboaaDoor

/- Stores of pieces as maps from prints to texts; texts put in a row. No program in sight. -/
namespace Go.Proofs.YtfdhaigmekmboaaDoor
open Go.RowKit

theorem asc_ext : ∀ (a b : List Pc), a.Pairwise (fun x y => x.print < y.print) → b.Pairwise (fun x y => x.print < y.print) → (∀ x, x ∈ a ↔ x ∈ b) → a = b
  | [], [], _, _, _ => rfl
  | [], q :: u, _, _, h => by have := (h q).2 (by simp); simp at this
  | p :: r, [], _, _, h => by have := (h p).1 (by simp); simp at this
  | p :: r, q :: u, ha, hb, h => by
    obtain ⟨a1, a2⟩ := List.pairwise_cons.1 ha
    obtain ⟨b1, b2⟩ := List.pairwise_cons.1 hb
    have e : p = q := by
      rcases List.mem_cons.1 ((h p).1 (by simp)) with e | e
      · exact e
      · rcases List.mem_cons.1 ((h q).2 (by simp)) with e' | e'
        · exact e'.symm
        · have := b1 p e; have := a1 q e'; omega
    subst e
    rw [asc_ext r u a2 b2 (fun x => ⟨fun hx => by
      rcases List.mem_cons.1 ((h x).1 (List.mem_cons_of_mem _ hx)) with e | e
      · subst e; have := a1 x hx; omega
      · exact e, fun hx => by
      rcases List.mem_cons.1 ((h x).2 (List.mem_cons_of_mem _ hx)) with e | e
      · subst e; have := b1 x hx; omega
      · exact e⟩)]
theorem asc_len : ∀ (a b : List Pc), a.Pairwise (fun x y => x.print < y.print) → b.Pairwise (fun x y => x.print < y.print) → (∀ x, x ∈ a → x ∈ b) → a.length ≤ b.length
  | [], b, _, _, _ => by simp
  | p :: r, [], _, _, h => by have := h p (by simp); simp at this
  | p :: r, q :: u, ha, hb, h => by
    obtain ⟨a1, a2⟩ := List.pairwise_cons.1 ha
    obtain ⟨b1, b2⟩ := List.pairwise_cons.1 hb
    by_cases e : p = q
    · subst e
      have := asc_len r u a2 b2 (fun x hx => by
        rcases List.mem_cons.1 (h x (List.mem_cons_of_mem _ hx)) with e | e
        · subst e; have := a1 x hx; omega
        · exact e)
      simp; omega
    · have hp : p ∈ u := by
        rcases List.mem_cons.1 (h p (by simp)) with e' | e'
        · exact absurd e' e
        · exact e'
      have hq := b1 p hp
      have := asc_len (p :: r) u ha b2 (fun x hx => by
        rcases List.mem_cons.1 (h x hx) with e' | e'
        · exfalso
          subst e'
          rcases List.mem_cons.1 hx with e2 | e2
          · exact e e2.symm
          · have := a1 x e2; omega
        · exact e')
      simp at this ⊢; omega
theorem getP_iff {l : List Pc} (h : storeOk l = true) {n : Int} {t : ByteArray} : getP l n = some t ↔ (⟨n, t⟩ : Pc) ∈ l := by
  constructor
  · intro hg
    obtain ⟨k, x, h1, rfl, rfl⟩ := getP_ex hg
    exact List.mem_of_getElem? h1
  · intro hm
    obtain ⟨j, hj, e⟩ := List.getElem_of_mem hm
    have hg : l[j]? = some ⟨n, t⟩ := by rw [List.getElem?_eq_getElem hj, e]
    exact getP_at hg (fun i y hi hy he => by have := asc_get (st_asc h) hy hg hi; omega)
theorem store_ext {a b : List Pc} (ha : storeOk a = true) (hb : storeOk b = true) (h : ∀ n t, getP a n = some t ↔ getP b n = some t) : a = b := by
  refine asc_ext a b (st_asc ha) (st_asc hb) (fun x => ?_)
  have := h x.print x.text
  rwa [getP_iff ha, getP_iff hb] at this

/-- All that is in the one is in the other. -/
def Le (s x : List Pc) : Prop := ∀ (n : Int) (t : ByteArray), getP s n = some t → getP x n = some t
theorem Le.rfl' (s : List Pc) : Le s s := fun _ _ h => h
theorem Le.trans {a b c : List Pc} (h : Le a b) (k : Le b c) : Le a c := fun n t hn => k n t (h n t hn)
theorem Le.len {a b : List Pc} (ha : storeOk a = true) (hb : storeOk b = true) (h : Le a b) : a.length ≤ b.length :=
  asc_len a b (st_asc ha) (st_asc hb) (fun x hx => (getP_iff hb).1 (h _ _ ((getP_iff ha).2 hx)))
theorem insP_get {s : List Pc} {t : ByteArray} (hs : storeOk s = true) (ht : textOk (bs t) = true) (hn : getP s (printOf (bs t)) = none) (hl : s.length < 40) :
    storeOk (insP s (printOf (bs t)) t) = true ∧ ∀ n u, getP (insP s (printOf (bs t)) t) n = some u ↔ (getP s n = some u ∨ (n = printOf (bs t) ∧ u = t)) := by
  have ho : storeOk (insP s (printOf (bs t)) t) = true := by
    have := put_ok (t := t) hs
    rw [put_new hs ht hn (by omega)] at this
    exact this
  refine ⟨ho, fun n u => ?_⟩
  rw [getP_iff ho, insP_mem, ← getP_iff hs, Pc.mk.injEq]

/-- A text is put. -/
theorem put_get {s : List Pc} {t : ByteArray} (hs : storeOk s = true) (h : (putS s t).2.2 = true) :
    storeOk (putS s t).1 = true ∧ textOk (bs t) = true ∧ (putS s t).2.1 = printOf (bs t) ∧ ∀ n u, getP (putS s t).1 n = some u ↔ (getP s n = some u ∨ (n = printOf (bs t) ∧ u = t)) := by
  rcases put_cases (t := t) hs with e | ⟨ht, hg, e⟩ | ⟨ht, hg, hl, e⟩
  · rw [e] at h; cases h
  · rw [e]
    refine ⟨hs, ht, rfl, fun n u => ⟨.inl, ?_⟩⟩
    rintro (h1 | ⟨rfl, rfl⟩)
    · exact h1
    · exact hg
  · rw [e]
    have := insP_get hs ht hg hl
    exact ⟨this.1, ht, rfl, this.2⟩
theorem put_can {s s' : List Pc} {t : ByteArray} (hs : storeOk s = true) (hs' : storeOk s' = true) (ht : textOk (bs t) = true) (hle : Le s s') (hin : getP s' (printOf (bs t)) = some t) : (putS s t).2.2 = true := by
  cases hg : getP s (printOf (bs t)) with
  | some u =>
    have := hle _ _ hg
    rw [hin] at this
    obtain rfl := Option.some.inj this
    rw [put_there hs ht hg]
  | none =>
    have h40 := (st_in hs').1
    have hl : s.length + 1 ≤ s'.length := by
      rw [← insP_len s (printOf (bs t)) t]
      refine asc_len _ _ (insP_asc (st_asc hs) hg) (st_asc hs') (fun x hx => ?_)
      rcases insP_mem.1 hx with h1 | rfl
      · exact (getP_iff hs').1 (hle _ _ ((getP_iff hs).2 h1))
      · exact (getP_iff hs').1 hin
    rw [put_new hs ht hg (by omega)]

/-- Texts put one behind the other; none if one cannot be. -/
def putAll : List Pc → List ByteArray → Option (List Pc)
  | s, [] => some s
  | s, t :: r => if (putS s t).2.2 then putAll (putS s t).1 r else none
theorem putAll_iff : ∀ (T : List ByteArray) {s s' : List Pc}, storeOk s = true → (putAll s T = some s' ↔ (storeOk s' = true ∧ (∀ t ∈ T, textOk (bs t) = true) ∧ ∀ n u, getP s' n = some u ↔ (getP s n = some u ∨ ∃ t ∈ T, n = printOf (bs t) ∧ u = t)))
  | [], s, s', hs => by
    simp only [putAll, Option.some.injEq]
    constructor
    · rintro rfl; exact ⟨hs, by simp, by simp⟩
    · rintro ⟨h1, _, h3⟩
      exact store_ext hs h1 (fun n u => by rw [h3]; simp)
  | t :: r, s, s', hs => by
    simp only [putAll]
    constructor
    · intro h
      split at h
      · rename_i hp
        obtain ⟨h1, h2, _, h4⟩ := put_get hs hp
        obtain ⟨k1, k2, k3⟩ := (putAll_iff r h1).1 h
        refine ⟨k1, fun x hx => ?_, fun n u => ?_⟩
        · rcases List.mem_cons.1 hx with rfl | hx
          · exact h2
          · exact k2 x hx
        · rw [k3, h4]
          constructor
          · rintro ((h5 | h5) | ⟨x, hx, h5⟩)
            · exact .inl h5
            · exact .inr ⟨t, by simp, h5⟩
            · exact .inr ⟨x, by simp [hx], h5⟩
          · rintro (h5 | ⟨x, hx, h5⟩)
            · exact .inl (.inl h5)
            · rcases List.mem_cons.1 hx with rfl | hx
              · exact .inl (.inr h5)
              · exact .inr ⟨x, hx, h5⟩
      · cases h
    · rintro ⟨k1, k2, k3⟩
      have hle : Le s s' := fun n u hn => (k3 n u).2 (.inl hn)
      have hp := put_can hs k1 (k2 t (by simp)) hle ((k3 _ _).2 (.inr ⟨t, by simp, rfl, rfl⟩))
      rw [if_pos hp]
      obtain ⟨h1, h2, _, h4⟩ := put_get hs hp
      refine (putAll_iff r h1).2 ⟨k1, fun x hx => k2 x (by simp [hx]), fun n u => ?_⟩
      rw [k3, h4]
      constructor
      · rintro (h5 | ⟨x, hx, h5⟩)
        · exact .inl (.inl h5)
        · rcases List.mem_cons.1 hx with rfl | hx
          · exact .inl (.inr h5)
          · exact .inr ⟨x, hx, h5⟩
      · rintro ((h5 | h5) | ⟨x, hx, h5⟩)
        · exact .inl h5
        · exact .inr ⟨t, by simp, h5⟩
        · exact .inr ⟨x, by simp [hx], h5⟩
theorem putAll_same {s : List Pc} {T T' : List ByteArray} (hs : storeOk s = true) (h : ∀ t, t ∈ T ↔ t ∈ T') : putAll s T = putAll s T' := by
  apply Option.ext
  intro s'
  rw [putAll_iff T hs, putAll_iff T' hs]
  simp only [h]
theorem putAll_append : ∀ (T T' : List ByteArray) (s : List Pc), putAll s (T ++ T') = (putAll s T).bind fun s1 => putAll s1 T'
  | [], T', s => rfl
  | t :: r, T', s => by
    simp only [List.cons_append, putAll]
    split
    · exact putAll_append r T' _
    · rfl
theorem putAll_one (s : List Pc) (t : ByteArray) : putAll s [t] = if (putS s t).2.2 then some (putS s t).1 else none := rfl
theorem putAll_le {T : List ByteArray} {s s' : List Pc} (hs : storeOk s = true) (h : putAll s T = some s') : storeOk s' = true ∧ Le s s' ∧ ∀ t ∈ T, textOk (bs t) = true ∧ getP s' (printOf (bs t)) = some t := by
  obtain ⟨k1, k2, k3⟩ := (putAll_iff T hs).1 h
  exact ⟨k1, fun n u hn => (k3 n u).2 (.inl hn), fun t ht => ⟨k2 t ht, (k3 _ _).2 (.inr ⟨t, ht, rfl, rfl⟩)⟩⟩
/-- What is there already can be put, and nothing is changed. -/
theorem putAll_there {T : List ByteArray} {s : List Pc} (hs : storeOk s = true) (h : ∀ t ∈ T, textOk (bs t) = true ∧ getP s (printOf (bs t)) = some t) : putAll s T = some s := by
  refine (putAll_iff T hs).2 ⟨hs, fun t ht => (h t ht).1, fun n u => ⟨.inl, ?_⟩⟩
  rintro (h1 | ⟨t, ht, rfl, rfl⟩)
  · exact h1
  · exact (h _ ht).2

end Go.Proofs.YtfdhaigmekmboaaDoor

/- Ways of names through folders, and what is put on the way back: the program's order of writing and the reference's come to the same. No program in sight. -/
namespace Go.Proofs.YtfdhaigmekmboaaDoor
open Go.RowKit

/-! ### Names in order -/
theorem blt_irr (a : List UInt8) : Go.Op.bytesLess a a = false := by
  induction a with
  | nil => rfl
  | cons x r ih => simp [Go.Op.bytesLess, ih]
theorem blt_trans : ∀ (a b c : List UInt8), Go.Op.bytesLess a b = true → Go.Op.bytesLess b c = true → Go.Op.bytesLess a c = true
  | [], _, [], _, h => by cases ‹List UInt8› <;> simp [Go.Op.bytesLess] at h
  | [], _, _ :: _, _, _ => by simp [Go.Op.bytesLess]
  | _ :: _, [], _, h, _ => by simp [Go.Op.bytesLess] at h
  | _ :: _, _ :: _, [], _, h => by simp [Go.Op.bytesLess] at h
  | x :: r, y :: s, z :: t, h, k => by
    simp only [Go.Op.bytesLess, Bool.or_eq_true, Bool.and_eq_true, decide_eq_true_eq, beq_iff_eq] at h k ⊢
    rcases h with h | ⟨rfl, h⟩
    · rcases k with k | ⟨rfl, k⟩
      · exact .inl (UInt8.lt_trans h k)
      · exact .inl h
    · rcases k with k | ⟨rfl, k⟩
      · exact .inl k
      · exact .inr ⟨rfl, blt_trans _ _ _ h k⟩
theorem blt_tot : ∀ (a b : List UInt8), Go.Op.bytesLess a b = true ∨ a = b ∨ Go.Op.bytesLess b a = true
  | [], [] => .inr (.inl rfl)
  | [], _ :: _ => .inl (by simp [Go.Op.bytesLess])
  | _ :: _, [] => .inr (.inr (by simp [Go.Op.bytesLess]))
  | x :: r, y :: s => by
    simp only [Go.Op.bytesLess, Bool.or_eq_true, Bool.and_eq_true, decide_eq_true_eq, beq_iff_eq]
    by_cases h : x < y
    · exact .inl (.inl h)
    · by_cases k : y < x
      · exact .inr (.inr (.inl k))
      · have e : x = y := UInt8.le_antisymm (UInt8.not_lt.1 k) (UInt8.not_lt.1 h)
        subst e
        rcases blt_tot r s with h | rfl | h
        · exact .inl (.inr ⟨rfl, h⟩)
        · exact .inr (.inl rfl)
        · exact .inr (.inr (.inr ⟨rfl, h⟩))
theorem ltN_irr (a : ByteArray) : ltN a a = false := blt_irr _
theorem ltN_trans {a b c : ByteArray} (h : ltN a b = true) (k : ltN b c = true) : ltN a c = true := blt_trans _ _ _ h k
theorem ltN_tot (a b : ByteArray) : ltN a b = true ∨ a = b ∨ ltN b a = true := by
  rcases blt_tot (bs a) (bs b) with h | h | h
  · exact .inl h
  · exact .inr (.inl (bs_inj h))
  · exact .inr (.inr h)
def lo (p : Option ByteArray) (c : ByteArray) : Prop := ∀ b, p = some b → ltN b c = true
def loB : Option ByteArray → ByteArray → Bool
  | some b, c => ltN b c
  | none, _ => true
theorem entsFrom_loB (p : Option ByteArray) (e : Ent) (r : List Ent) : entsFrom p (e :: r) = (entOk e && loB p e.name && entsFrom (some e.name) r) := by cases p <;> rfl
theorem entsFrom_iff : ∀ {l : List Ent} {p : Option ByteArray}, entsFrom p l = true ↔ ((∀ e ∈ l, entOk e = true ∧ lo p e.name) ∧ l.Pairwise (fun a b => ltN a.name b.name = true))
  | [], _ => by simp [entsFrom]
  | e :: r, p => by
    have ih := @entsFrom_iff r (some e.name)
    have hlo : loB p e.name = true ↔ lo p e.name := by
      cases p with
      | none => simp [lo, loB]
      | some b => simp [lo, loB]
    rw [entsFrom_loB, Bool.and_eq_true, Bool.and_eq_true, hlo, ih, List.pairwise_cons]
    constructor
    · rintro ⟨⟨h1, h2⟩, h3, h4⟩
      refine ⟨fun x hx => ?_, fun x hx => (h3 x hx).2 _ rfl, h4⟩
      rcases List.mem_cons.1 hx with rfl | hx
      · exact ⟨h1, h2⟩
      · exact ⟨(h3 x hx).1, fun b hb => ltN_trans (h2 b hb) ((h3 x hx).2 _ rfl)⟩
    · rintro ⟨h1, h2, h3⟩
      exact ⟨h1 e (by simp), fun x hx => ⟨(h1 x (by simp [hx])).1, fun b hb => by obtain rfl := Option.some.inj hb; exact h2 x hx⟩, h3⟩
theorem ents_iff {l : List Ent} : entsOk l = true ↔ l.length ≤ 3 ∧ (∀ e ∈ l, entOk e = true) ∧ l.Pairwise (fun a b => ltN a.name b.name = true) := by
  simp only [entsOk, Bool.and_eq_true, decide_eq_true_eq]
  rw [entsFrom_iff]
  constructor
  · rintro ⟨h1, h2, h3⟩; exact ⟨h1, fun e he => (h2 e he).1, h3⟩
  · rintro ⟨h1, h2, h3⟩; exact ⟨h1, fun e he => ⟨h2 e he, fun b hb => by cases hb⟩, h3⟩

/-! ### The print that a name has -/
theorem child_none : ∀ (l : List Ent) (nm : ByteArray) (c : Int), (∀ e ∈ l, e.name ≠ nm) → l.foldl (fun c e => if e.name = nm then e.print else c) c = c
  | [], _, _, _ => rfl
  | e :: r, nm, c, h => by
    rw [List.foldl_cons, if_neg (h e (by simp))]
    exact child_none r nm c (fun x hx => h x (by simp [hx]))
theorem child_eq : ∀ {l : List Ent} {nm : ByteArray} (c : Int), l.Pairwise (fun a b => ltN a.name b.name = true) → l.foldl (fun c e => if e.name = nm then e.print else c) c = (firstOf l nm).getD c
  | [], _, _, _ => rfl
  | e :: r, nm, c, h => by
    obtain ⟨h1, h2⟩ := List.pairwise_cons.1 h
    rw [List.foldl_cons]
    unfold firstOf
    rw [List.find?_cons]
    by_cases he : e.name = nm
    · rw [if_pos he]
      simp only [he, decide_true]
      rw [child_none r nm _ (fun x hx e' => by have := h1 x hx; rw [he, e', ltN_irr] at this; cases this)]
      rfl
    · rw [if_neg he]
      simp only [he, decide_false]
      exact child_eq c h2
theorem child_first {l : List Ent} (h : entsOk l = true) (nm : ByteArray) : childOf l nm = (firstOf l nm).getD (-1) := child_eq (-1) (ents_iff.1 h).2.2
theorem first_mem {l : List Ent} {nm : ByteArray} {c : Int} (h : firstOf l nm = some c) : ⟨nm, c⟩ ∈ l := by
  unfold firstOf at h
  cases hf : l.find? (fun e => decide (e.name = nm)) with
  | none => rw [hf] at h; cases h
  | some e =>
    rw [hf] at h
    have h1 := List.mem_of_find?_eq_some hf
    have h2 := List.find?_some hf
    simp only [decide_eq_true_eq] at h2
    have h3 : e.print = c := Option.some.inj h
    obtain ⟨a, b⟩ := e
    simp only at h2 h3
    subst h2 h3
    exact h1
theorem first_iff {l : List Ent} (ho : entsOk l = true) {nm : ByteArray} {c : Int} : firstOf l nm = some c ↔ ⟨nm, c⟩ ∈ l := by
  refine ⟨first_mem, fun h => ?_⟩
  have hp := (ents_iff.1 ho).2.2
  clear ho
  induction l with
  | nil => simp at h
  | cons e r ih =>
    obtain ⟨h1, h2⟩ := List.pairwise_cons.1 hp
    unfold firstOf
    rw [List.find?_cons]
    rcases List.mem_cons.1 h with rfl | h
    · simp
    · have := h1 _ h
      have hne : e.name ≠ nm := by rintro rfl; simp only [ltN_irr] at this; cases this
      simp only [hne, decide_false]
      exact ih h h2
theorem first_pv {l : List Ent} (ho : entsOk l = true) {nm : ByteArray} {c : Int} (h : firstOf l nm = some c) : wordOk (bs nm) = true ∧ pv c = true := entOk_iff.1 (ents_all ho (first_mem h))
theorem first_no {l : List Ent} {nm : ByteArray} (h : firstOf l nm = none) : ∀ e ∈ l, e.name ≠ nm := by
  intro e he hn
  unfold firstOf at h
  rw [Option.map_eq_none_iff, List.find?_eq_none] at h
  exact h e he (by simpa using hn)

/-! ### Folders -/
theorem readFolder_emp : readFolder [] = none := readFolder_no (fun es h he => by rw [folder_on h] at he; cases he)
noncomputable def folderAt (s : List Pc) (pr : Int) : Option (List Ent) := (getP s pr).bind fun t => readFolder (bs t)
theorem folderAt_text (s : List Pc) (pr : Int) : readFolder (textAt s pr) = folderAt s pr := by
  unfold textAt folderAt
  cases getP s pr with
  | none => exact readFolder_emp
  | some t => rfl
theorem folderAt_ok {s : List Pc} {pr : Int} {es : List Ent} (h : folderAt s pr = some es) : entsOk es = true := by
  rw [← folderAt_text] at h
  exact (readFolder_some h).1
theorem folderAt_le {s x : List Pc} (h : Le s x) {pr : Int} {es : List Ent} (hf : folderAt s pr = some es) : folderAt x pr = some es := by
  unfold folderAt at hf ⊢
  cases hg : getP s pr with
  | none => rw [hg] at hf; cases hf
  | some t => rw [hg] at hf; rw [h _ _ hg]; exact hf
theorem entsOf_at (s : List Pc) (pr : Int) : entsOf (textAt s pr) = (folderAt s pr).getD [] := by unfold entsOf; rw [folderAt_text]
theorem folder_len {es : List Ent} (h : entsOk es = true) : (folderText es).length ≤ 49 := by
  rw [folder_on h]
  have h1 := (ents_in h).1
  have h2 : ∀ l : List Ent, (∀ e ∈ l, entOk e = true) → (entsText l).length ≤ 16 * l.length := by
    intro l
    induction l with
    | nil => intro _; simp [entsText]
    | cons e r ih =>
      intro hl
      have h3 := ih (fun x hx => hl x (by simp [hx]))
      have h4 : (bs e.name).length ≤ 8 := by
        have := (entOk_iff.1 (hl e (by simp))).1
        simp only [wordOk, Bool.and_eq_true, decide_eq_true_eq] at this
        omega
      have h5 := hexT_len e.print
      have h6 : entsText (e :: r) = entText e ++ entsText r := by simp [entsText]
      rw [h6]
      simp only [entText, List.length_append, List.length_cons, List.length_nil]
      omega
  have := h2 es (fun e he => ents_all h he)
  simp only [List.length_cons]
  omega
theorem tx_hex {c : UInt8} (h : (hexV c).isSome = true) : txCh c = true := by
  unfold hexV at h
  unfold txCh inB
  split at h
  · simp; omega
  · split at h
    · simp; omega
    · cases h
theorem tx_word {l : List UInt8} (h : wordOk l = true) {c : UInt8} (hc : c ∈ l) : txCh c = true := by
  simp only [wordOk, Bool.and_eq_true, decide_eq_true_eq] at h
  have := List.all_eq_true.1 h.2 c hc
  simp only [wordCh, isSm, isDig, inB, Bool.or_eq_true, Bool.and_eq_true, decide_eq_true_eq] at this
  unfold txCh inB
  simp
  omega
theorem folder_textOk {es : List Ent} (h : entsOk es = true) : textOk (folderText es) = true := by
  have hl := folder_len h
  unfold textOk
  rw [Bool.and_eq_true]
  refine ⟨by simp; omega, ?_⟩
  rw [List.all_eq_true]
  intro c hc
  rw [folder_on h] at hc
  rcases List.mem_cons.1 hc with rfl | hc
  · rfl
  · unfold entsText at hc
    obtain ⟨e, he, hc⟩ := List.mem_flatMap.1 hc
    have ho := entOk_iff.1 (ents_all h he)
    unfold entText at hc
    rcases List.mem_append.1 hc with hc | hc
    · exact tx_word ho.1 hc
    · rcases List.mem_cons.1 hc with rfl | hc
      · rfl
      · rcases List.mem_append.1 hc with hc | hc
        · exact tx_hex (hexT_ch hc)
        · simp at hc; subst hc; rfl
theorem file_textOk {c : List UInt8} (h : contOk c = true) : textOk (fileText c) = true ∧ isFile (fileText c) = true := by
  have hf : fileText c = 102 :: c := by unfold fileText; rw [if_pos h]
  have h0 := h
  unfold contOk textOk at h
  simp only [Bool.and_eq_true, decide_eq_true_eq] at h
  rw [hf]
  constructor
  · unfold textOk
    rw [Bool.and_eq_true]
    refine ⟨by simp; omega, ?_⟩
    rw [List.all_cons, h.1.2]; rfl
  · unfold isFile; simp [h0]
theorem file_no_folder {l : List UInt8} (h : isFile l = true) : readFolder l = none := by
  refine readFolder_no (fun es ho ht => ?_)
  rw [folder_on ho] at ht
  subst ht
  simp [isFile] at h
theorem readFolder_self {es : List Ent} (h : entsOk es = true) : readFolder (folderText es) = some es := readFolder_yes h rfl

/-! ### Ways -/
noncomputable def folderQ (s : List Pc) : Option Int → Option (List Ent)
  | some pr => folderAt s pr
  | none => some []
theorem folderQ_ok {s : List Pc} {q : Option Int} {es : List Ent} (h : folderQ s q = some es) : entsOk es = true := by
  cases q with
  | none => simp [folderQ] at h; subst h; rfl
  | some pr => exact folderAt_ok h
noncomputable def wayW (s : List Pc) : Option Int → List ByteArray → Option (List (List Ent) × Option Int)
  | q, [] => some ([], q)
  | q, nm :: r => match folderQ s q with
    | none => none
    | some es => match wayW s (firstOf es nm) r with | none => none | some (F, z) => some (es :: F, z)
/-- What is put on the way back, the last folder first; the print of the first one. -/
def upT : List (List Ent × ByteArray) → Int → Option (List ByteArray × Int)
  | [], pr => some ([], pr)
  | (es, nm) :: r, pr => match upT r pr with
    | none => none
    | some (T, ch) => if (putEnt es ⟨nm, ch⟩).2 then some (T ++ [strL (folderText (putEnt es ⟨nm, ch⟩).1)], printOf (folderText (putEnt es ⟨nm, ch⟩).1)) else none
noncomputable def leafOk (s : List Pc) (z : Option Int) : Bool := match z with | none => true | some c => hasP s c && isFile (textAt s c)
theorem way_len : ∀ (parts : List ByteArray) (s : List Pc) (q : Option Int) (F : List (List Ent)) (z : Option Int), wayW s q parts = some (F, z) → F.length = parts.length
  | [], s, q, F, z, h => by simp [wayW] at h; rw [h.1]; rfl
  | nm :: r, s, q, F, z, h => by
    unfold wayW at h
    split at h
    · cases h
    · split at h
      · cases h
      · rename_i es _ _ F' z' hw
        simp only [Option.some.injEq, Prod.mk.injEq] at h
        rw [← h.1, List.length_cons, List.length_cons, way_len r s _ F' z' hw]
theorem way_ok : ∀ (parts : List ByteArray) (s : List Pc) (q : Option Int) (F : List (List Ent)) (z : Option Int), wayW s q parts = some (F, z) → ∀ es ∈ F, entsOk es = true
  | [], s, q, F, z, h => by simp [wayW] at h; rw [h.1]; simp
  | nm :: r, s, q, F, z, h => by
    unfold wayW at h
    split at h
    · cases h
    · rename_i es hes
      split at h
      · cases h
      · rename_i F' z' hw
        simp only [Option.some.injEq, Prod.mk.injEq] at h
        rw [← h.1]
        intro x hx
        rcases List.mem_cons.1 hx with rfl | hx
        · exact folderQ_ok hes
        · exact way_ok r s _ F' z' hw x hx
theorem putEnt_ok {es : List Ent} {e : Ent} (h : (putEnt es e).2 = true) : entsOk es = true ∧ entsOk (putE es e) = true ∧ (putEnt es e).1 = putE es e := by
  unfold putEnt at h ⊢
  split at h
  · rename_i h1
    split at h
    · rename_i h2
      rw [if_pos h1, if_pos h2]
      exact ⟨h1, h2, rfl⟩
    · cases h
  · cases h
theorem badLeaf_eq (s : List Pc) (c : Int) : badLeaf s c = !(hasP s c && isFile (textAt s c)) := by
  unfold badLeaf kindOf
  cases hasP s c
  · simp
  · cases isFile (textAt s c)
    · simp only [Bool.not_true, Bool.false_or, Bool.and_false, Bool.not_false, decide_eq_true_eq, Bool.false_eq_true, if_false]
      split <;> decide
    · simp
theorem hasP_pv {s : List Pc} (hs : storeOk s = true) {c : Int} (h : hasP s c = true) : 0 ≤ c := by
  obtain ⟨x, hx, rfl⟩ := hasP_iff.1 h
  exact (pcOk_pv (st_all hs hx)).1

/-- The reference's writing on the way back, as texts put. -/
def setTo (s : List Pc) (parts : List ByteArray) (leaf : Int) (W : Option (List (List Ent) × Option Int)) (lk : Option Int → Bool) (R : List Pc × Int × Bool) : Prop :=
  match W with
  | none => R.2.2 = false
  | some (F, z) => if parts ≠ [] ∧ lk z = false then R.2.2 = false else match upT (F.zip parts) leaf with
    | none => R.2.2 = false
    | some (T, p) => match putAll s T with
      | none => R.2.2 = false
      | some s' => R = (s', p, true)
theorem set_way {s : List Pc} (hs : storeOk s = true) (leaf : Int) : ∀ (parts : List ByteArray) (q : Option Int), (∀ p, q = some p → 0 ≤ p) → setTo s parts leaf (wayW s q parts) (leafOk s) (setAt s (q.getD (-1)) parts leaf)
  | [], q, _ => by
    show setTo s [] leaf (some ([], q)) _ _
    simp [setTo, upT, putAll, setAt]
  | nm :: rest, q, hq => by
    have hr : (if 0 ≤ q.getD (-1) then readFolder (textAt s (q.getD (-1))) else some []) = folderQ s q := by
      cases q with
      | none => rfl
      | some p => simp only [Option.getD_some]; rw [if_pos (hq p rfl), folderAt_text]; rfl
    unfold wayW setAt
    rw [hr]
    cases hes : folderQ s q with
    | none => simp [setTo]
    | some es =>
      have ho : entsOk es = true := folderQ_ok hes
      simp only []
      rw [child_first ho nm]
      have ih := set_way hs leaf rest (firstOf es nm) (fun p hp => (pv_iff.1 (first_pv ho hp).2).1)
      have hbad : rest = [] → ((rest = [] ∧ 0 ≤ (firstOf es nm).getD (-1) ∧ badLeaf s ((firstOf es nm).getD (-1)) = true) ↔ leafOk s (firstOf es nm) = false) := by
        intro h0
        cases hf : firstOf es nm with
        | none => simp [leafOk]
        | some c =>
          have hc := (pv_iff.1 (first_pv ho hf).2).1
          simp only [Option.getD_some, leafOk, badLeaf_eq, Bool.not_eq_true', h0, true_and]
          exact ⟨fun h => h.2, fun h => ⟨hc, h⟩⟩
      cases hw : wayW s (firstOf es nm) rest with
      | none =>
        rw [hw] at ih
        simp only [setTo] at ih ⊢
        rcases Decidable.em (rest = []) with h0 | h0
        · subst h0; simp [wayW] at hw
        · rw [if_neg (fun h => h0 h.1), if_pos ih]
      | some FZ =>
        obtain ⟨F, z⟩ := FZ
        rw [hw] at ih
        simp only [setTo] at ih ⊢
        have hzz : rest = [] → z = firstOf es nm := by
          rintro rfl; simp [wayW] at hw; exact hw.2.symm
        by_cases hlk : leafOk s z = false
        · rw [if_pos ⟨by simp, hlk⟩]
          rcases Decidable.em (rest = []) with h0 | h0
          · rw [if_pos ((hbad h0).2 (by rw [← hzz h0]; exact hlk))]
          · rw [if_pos ⟨h0, hlk⟩] at ih
            rw [if_neg (fun h => h0 h.1), if_pos ih]
        · rw [if_neg (fun h => hlk h.2)]
          rw [if_neg (fun h => hlk h.2)] at ih
          have hnb : ¬ (rest = [] ∧ 0 ≤ (firstOf es nm).getD (-1) ∧ badLeaf s ((firstOf es nm).getD (-1)) = true) := by
            intro h
            have := (hbad h.1).1 h
            rw [← hzz h.1] at this
            exact hlk this
          rw [if_neg hnb]
          rw [List.zip_cons_cons]
          simp only [upT]
          cases hu : upT (F.zip rest) leaf with
          | none => rw [hu] at ih; simp only [] at ih ⊢; rw [if_pos ih]
          | some TP =>
            obtain ⟨T, p⟩ := TP
            rw [hu] at ih
            simp only [] at ih ⊢
            cases hpa : putAll s T with
            | none =>
              rw [hpa] at ih
              simp only [] at ih
              rw [if_pos ih]
              by_cases hpe : (putEnt es ⟨nm, p⟩).2 = true
              · rw [if_pos hpe]
                simp only []
                rw [putAll_append, hpa]
                simp only [Option.bind_none]
              · rw [if_neg hpe]
            | some s1 =>
              rw [hpa] at ih
              simp only [] at ih
              rw [ih]
              simp only [Bool.true_eq_false, if_false]
              by_cases hpe : (putEnt es ⟨nm, p⟩).2 = true
              · rw [if_neg (show ¬ (putEnt es ⟨nm, p⟩).2 = false by rw [hpe]; simp), if_pos hpe]
                simp only []
                rw [putAll_append, hpa]
                simp only [Option.bind_some]
                rw [putAll_one]
                have hs1 := (putAll_le hs hpa).1
                by_cases hput : (putS s1 (strL (folderText (putEnt es ⟨nm, p⟩).1))).2.2 = true
                · rw [if_pos hput]
                  have := (put_get hs1 hput).2.2.1
                  rw [bs_strL] at this
                  simp only []
                  rw [← this, ← hput]
                · rw [if_neg hput]
                  simp only []
                  simpa using hput
              · rw [if_neg hpe, if_pos (show (putEnt es ⟨nm, p⟩).2 = false by simpa using hpe)]

/-- A write: the way, what is put on the way back, and the file. -/
noncomputable def writeTo (s : List Pc) (root : Int) (ws : List ByteArray) (content : List UInt8) : Option (List Pc × Int) :=
  match wayW s (some root) ws with
  | none => none
  | some (F, z) => if leafOk s z = false then none else match upT (F.zip ws) (printOf (fileText content)) with
    | none => none
    | some (T, p) => match putAll s (strL (fileText content) :: T) with
      | none => none
      | some s' => some (s', p)
theorem writeAt_eq {s : List Pc} {root : Int} {path content : List UInt8} {ws : List (List UInt8)} (hs : storeOk s = true) (hp : pathParts path = some ws) (h0 : ws ≠ []) (hc : contOk content = true) :
    writeAt s root path content = match writeTo s root (ws.map strL) content with | none => (s, root, false) | some (s', p) => (s', p, true) := by
  have h0' : ws.map strL ≠ [] := by simpa using h0
  unfold writeAt
  rw [hp]
  simp only []
  rw [if_neg (fun h => h.elim (fun h => by rw [hs] at h; cases h) (fun h => h.elim h0 (fun h => by rw [hc] at h; cases h)))]
  unfold writeTo
  by_cases hr : hasP s root = false
  · rw [if_pos hr]
    have hw : wayW s (some root) (ws.map strL) = none := by
      cases hl : ws.map strL with
      | nil => exact absurd hl h0'
      | cons nm r =>
        have hg : getP s root = none := by unfold hasP at hr; simpa using hr
        have : folderAt s root = none := by unfold folderAt; rw [hg]; rfl
        simp [wayW, folderQ, this]
    rw [hw]
  · rw [if_neg hr]
    have hr1 : hasP s root = true := by simpa using hr
    have hset := set_way hs (printOf (fileText content)) (ws.map strL) (some root) (fun p hp => by obtain rfl := Option.some.inj hp; exact hasP_pv hs hr1)
    simp only [Option.getD_some] at hset
    cases hw : wayW s (some root) (ws.map strL) with
    | none =>
      rw [hw] at hset
      simp only [setTo] at hset
      rw [if_pos hset]
    | some FZ =>
      obtain ⟨F, z⟩ := FZ
      rw [hw] at hset
      simp only [setTo] at hset ⊢
      by_cases hlk : leafOk s z = false
      · rw [if_pos ⟨h0', hlk⟩] at hset
        rw [if_pos hset, if_pos hlk]
      · rw [if_neg (fun h => hlk h.2)] at hset
        rw [if_neg hlk]
        cases hu : upT (F.zip (ws.map strL)) (printOf (fileText content)) with
        | none => rw [hu] at hset; simp only [] at hset ⊢; rw [if_pos hset]
        | some TP =>
          obtain ⟨T, p⟩ := TP
          rw [hu] at hset
          simp only [] at hset ⊢
          rw [putAll_same (T' := T ++ [strL (fileText content)]) hs (fun t => by simp [or_comm]), putAll_append]
          cases hpa : putAll s T with
          | none => rw [hpa] at hset; simp only [] at hset; rw [if_pos hset]; rfl
          | some s1 =>
            rw [hpa] at hset
            simp only [] at hset
            rw [hset]
            simp only [Bool.true_eq_false, if_false, Option.bind_some]
            rw [putAll_one]
            by_cases hput : (putS s1 (strL (fileText content))).2.2 = true
            · rw [if_neg (by simp [hput]), if_pos hput]
            · rw [if_pos (by simpa using hput), if_neg hput]

end Go.Proofs.YtfdhaigmekmboaaDoor

/- Entries of folders as maps from names to prints: put, dropped, put again. No program in sight. -/
namespace Go.Proofs.YtfdhaigmekmboaaDoor
open Go.RowKit

abbrev Asc (l : List Ent) : Prop := l.Pairwise (fun a b => ltN a.name b.name = true)
theorem ltN_asym {a b : ByteArray} (h : ltN a b = true) : ltN b a = false := by
  cases hb : ltN b a
  · rfl
  · have := ltN_trans h hb; rw [ltN_irr] at this; cases this
theorem ent_ext : ∀ (a b : List Ent), Asc a → Asc b → (∀ x, x ∈ a ↔ x ∈ b) → a = b
  | [], [], _, _, _ => rfl
  | [], q :: u, _, _, h => by have := (h q).2 (by simp); simp at this
  | p :: r, [], _, _, h => by have := (h p).1 (by simp); simp at this
  | p :: r, q :: u, ha, hb, h => by
    obtain ⟨a1, a2⟩ := List.pairwise_cons.1 ha
    obtain ⟨b1, b2⟩ := List.pairwise_cons.1 hb
    have e : p = q := by
      rcases List.mem_cons.1 ((h p).1 (by simp)) with e | e
      · exact e
      · rcases List.mem_cons.1 ((h q).2 (by simp)) with e' | e'
        · exact e'.symm
        · have := ltN_asym (b1 p e); rw [a1 q e'] at this; cases this
    subst e
    rw [ent_ext r u a2 b2 (fun x => ⟨fun hx => by
      rcases List.mem_cons.1 ((h x).1 (List.mem_cons_of_mem _ hx)) with e | e
      · subst e; have := a1 x hx; rw [ltN_irr] at this; cases this
      · exact e, fun hx => by
      rcases List.mem_cons.1 ((h x).2 (List.mem_cons_of_mem _ hx)) with e | e
      · subst e; have := b1 x hx; rw [ltN_irr] at this; cases this
      · exact e⟩)]
theorem asc_name {l : List Ent} (h : Asc l) {i j : Nat} {x y : Ent} (hi : l[i]? = some x) (hj : l[j]? = some y) (hij : i < j) : ltN x.name y.name = true := by
  obtain ⟨h1, e1⟩ := List.getElem?_eq_some_iff.1 hi
  obtain ⟨h2, e2⟩ := List.getElem?_eq_some_iff.1 hj
  rw [← e1, ← e2]
  exact List.pairwise_iff_getElem.1 h i j h1 h2 hij
theorem entAt_from {l : List Ent} (h : Asc l) {nm : ByteArray} {j : Nat} {x : Ent} (hj : entAt l nm ≤ j) (hx : l[j]? = some x) : ltN x.name nm = false := by
  have hlt := (List.getElem?_eq_some_iff.1 hx).1
  have key : ∀ (l : List Ent) (y : Ent), l[entAt l nm]? = some y → ltN y.name nm = false := by
    intro l
    induction l with
    | nil => intro y hy; simp at hy
    | cons p r ih =>
      intro y hy
      unfold entAt at hy
      rw [List.takeWhile_cons] at hy
      by_cases hp : ltN p.name nm = true
      · rw [if_pos hp] at hy
        exact ih y (by simpa [entAt] using hy)
      · rw [if_neg hp] at hy
        simp at hy; subst hy; simpa using hp
  obtain ⟨y, hy⟩ : ∃ y, l[entAt l nm]? = some y := ⟨l[entAt l nm]'(by omega), List.getElem?_eq_getElem _⟩
  have h1 := key l y hy
  rcases Nat.lt_or_eq_of_le hj with h2 | h2
  · have h3 := asc_name h hy hx h2
    cases h4 : ltN x.name nm
    · rfl
    · have := ltN_trans h3 h4; rw [h1] at this; cases this
  · rw [h2, hx] at hy
    rw [Option.some.inj hy]; exact h1
/-- The entries behind a name's place. -/
def behind (l : List Ent) (nm : ByteArray) : List Ent := if isNm l nm (entAt l nm) then l.drop (entAt l nm + 1) else l.drop (entAt l nm)
theorem isNm_iff {l : List Ent} {nm : ByteArray} {k : Nat} : isNm l nm k = true ↔ ∃ x, l[k]? = some x ∧ x.name = nm := by
  unfold isNm
  cases l[k]? with
  | none => simp
  | some x => simp
theorem front_lt {l : List Ent} {nm : ByteArray} {x : Ent} (hx : x ∈ l.take (entAt l nm)) : ltN x.name nm = true := by
  obtain ⟨j, hj, e⟩ := List.getElem_of_mem hx
  have hj' : j < entAt l nm := by simp at hj; omega
  refine entAt_below hj' (x := x) ?_
  have : (l.take (entAt l nm))[j]? = some x := by rw [List.getElem?_eq_getElem hj, e]
  rwa [List.getElem?_take, if_pos hj'] at this
theorem behind_gt {l : List Ent} (h : Asc l) {nm : ByteArray} {x : Ent} (hx : x ∈ behind l nm) : ltN nm x.name = true := by
  unfold behind at hx
  have tot : ∀ j, entAt l nm ≤ j → l[j]? = some x → x.name ≠ nm → ltN nm x.name = true := by
    intro j hj hg hne
    have := entAt_from h hj hg
    rcases ltN_tot nm x.name with h1 | h1 | h1
    · exact h1
    · exact absurd h1.symm hne
    · rw [this] at h1; cases h1
  split at hx
  · rename_i hi
    obtain ⟨y, hy, hyn⟩ := isNm_iff.1 hi
    obtain ⟨j, hj, e⟩ := List.getElem_of_mem hx
    have hg : l[entAt l nm + 1 + j]? = some x := by
      rw [← List.getElem?_drop, List.getElem?_eq_getElem hj, e]
    have := asc_name h hy hg (by omega)
    rwa [hyn] at this
  · rename_i hi
    obtain ⟨j, hj, e⟩ := List.getElem_of_mem hx
    have hg : l[entAt l nm + j]? = some x := by
      rw [← List.getElem?_drop, List.getElem?_eq_getElem hj, e]
    refine tot _ (by omega) hg ?_
    rintro rfl
    rcases Nat.eq_zero_or_pos j with h0 | h0
    · subst h0
      exact hi (isNm_iff.2 ⟨x, hg, rfl⟩)
    · obtain ⟨y, hy⟩ : ∃ y, l[entAt l x.name]? = some y := ⟨l[entAt l x.name]'(by have := (List.getElem?_eq_some_iff.1 hg).1; omega), List.getElem?_eq_getElem _⟩
      have h1 := asc_name h hy hg (by omega)
      rw [entAt_from h (Nat.le_refl _) hy] at h1; cases h1
theorem mem_parts {l : List Ent} {nm : ByteArray} {x : Ent} : x ∈ l ↔ (x ∈ l.take (entAt l nm) ∨ x ∈ behind l nm ∨ (x.name = nm ∧ l[entAt l nm]? = some x)) := by
  constructor
  · intro hx
    rw [← List.take_append_drop (entAt l nm) l, List.mem_append] at hx
    rcases hx with hx | hx
    · exact .inl hx
    · right
      unfold behind
      by_cases hi : isNm l nm (entAt l nm) = true
      · rw [if_pos hi]
        obtain ⟨y, hy, hyn⟩ := isNm_iff.1 hi
        obtain ⟨hlt, e⟩ := List.getElem?_eq_some_iff.1 hy
        rw [List.drop_eq_getElem_cons hlt, e] at hx
        rcases List.mem_cons.1 hx with rfl | hx
        · exact .inr ⟨hyn, hy⟩
        · exact .inl hx
      · rw [if_neg hi]
        exact .inl hx
  · rintro (h | h | ⟨_, h⟩)
    · exact List.mem_of_mem_take h
    · unfold behind at h
      split at h <;> exact List.mem_of_mem_drop h
    · exact List.mem_of_getElem? h
theorem putE_eq (l : List Ent) (e : Ent) : putE l e = l.take (entAt l e.name) ++ e :: behind l e.name := by
  unfold putE behind
  split <;> simp
theorem putE_asc {l : List Ent} (h : Asc l) (e : Ent) : Asc (putE l e) := by
  rw [putE_eq]
  unfold Asc
  rw [List.pairwise_append]
  have hbe : Asc (behind l e.name) := by
    unfold behind
    split <;> exact h.sublist (List.drop_sublist _ _)
  refine ⟨h.sublist (List.take_sublist _ _), List.Pairwise.cons (fun x hx => behind_gt h hx) hbe, ?_⟩
  intro a ha b hb
  have h1 := front_lt ha
  rcases List.mem_cons.1 hb with rfl | hb
  · exact h1
  · exact ltN_trans h1 (behind_gt h hb)
theorem putE_mem {l : List Ent} (h : Asc l) {e x : Ent} : x ∈ putE l e ↔ (x = e ∨ (x ∈ l ∧ x.name ≠ e.name)) := by
  rw [putE_eq, List.mem_append, List.mem_cons]
  constructor
  · rintro (h1 | h1 | h1)
    · right
      have h2 := front_lt h1
      exact ⟨List.mem_of_mem_take h1, fun e' => by rw [e', ltN_irr] at h2; cases h2⟩
    · exact .inl h1
    · right
      have h2 := behind_gt h h1
      exact ⟨(mem_parts (nm := e.name)).2 (.inr (.inl h1)), fun e' => by rw [e', ltN_irr] at h2; cases h2⟩
  · rintro (h1 | ⟨h1, h2⟩)
    · exact .inr (.inl h1)
    · rcases (mem_parts (nm := e.name)).1 h1 with h3 | h3 | ⟨h3, _⟩
      · exact .inl h3
      · exact .inr (.inr h3)
      · exact absurd h3 h2
theorem ents_asc {l : List Ent} (h : entsOk l = true) : Asc l := (ents_iff.1 h).2.2
theorem ents_ext {a b : List Ent} (ha : entsOk a = true) (hb : entsOk b = true) (h : ∀ x, x ∈ a ↔ x ∈ b) : a = b := ent_ext a b (ents_asc ha) (ents_asc hb) h
theorem putE_first {l : List Ent} {e : Ent} (h : entsOk (putE l e) = true) : firstOf (putE l e) e.name = some e.print := by
  rw [first_iff h, putE_eq]
  simp
theorem putE_other {l : List Ent} {e : Ent} (hl : entsOk l = true) (h : entsOk (putE l e) = true) {nm : ByteArray} (hne : nm ≠ e.name) : firstOf (putE l e) nm = firstOf l nm := by
  apply Option.ext
  intro c
  rw [first_iff h, first_iff hl, putE_mem (ents_asc hl)]
  constructor
  · rintro (h1 | h1)
    · rw [← h1] at hne; exact absurd rfl hne
    · exact h1.1
  · intro h1; exact .inr ⟨h1, hne⟩
theorem nodup_len {l l' : List Ent} (ha : Asc l) (hb : Asc l') (h : ∀ x, x ∈ l → ∃ y ∈ l', y.name = x.name) : l.length ≤ l'.length := by
  have key : ∀ (a b : List ByteArray), a.Pairwise (fun x y => ltN x y = true) → b.Pairwise (fun x y => ltN x y = true) → (∀ x ∈ a, x ∈ b) → a.length ≤ b.length := by
    intro a
    induction a with
    | nil => intros; simp
    | cons p r ih =>
      intro b ha hb hm
      obtain ⟨a1, a2⟩ := List.pairwise_cons.1 ha
      induction b with
      | nil => have := hm p (by simp); simp at this
      | cons q u ihb =>
        obtain ⟨b1, b2⟩ := List.pairwise_cons.1 hb
        by_cases e : p = q
        · subst e
          have := ih u a2 b2 (fun x hx => by
            rcases List.mem_cons.1 (hm x (List.mem_cons_of_mem _ hx)) with e | e
            · subst e; have := a1 x hx; rw [ltN_irr] at this; cases this
            · exact e)
          simp; omega
        · have hp : p ∈ u := by
            rcases List.mem_cons.1 (hm p (by simp)) with e' | e'
            · exact absurd e' e
            · exact e'
          have hq := b1 p hp
          have := ihb b2 (fun x hx => by
            rcases List.mem_cons.1 (hm x hx) with e' | e'
            · exfalso
              subst e'
              rcases List.mem_cons.1 hx with e2 | e2
              · exact e e2.symm
              · have := ltN_asym (a1 x e2); rw [hq] at this; cases this
            · exact e')
          simp at this ⊢; omega
  have hmap : ∀ {l : List Ent}, Asc l → (l.map (·.name)).Pairwise (fun x y => ltN x y = true) := fun h => List.pairwise_map.2 h
  have := key (l.map (·.name)) (l'.map (·.name)) (hmap ha) (hmap hb) (fun x hx => by
    obtain ⟨y, hy, rfl⟩ := List.mem_map.1 hx
    obtain ⟨z, hz, hzn⟩ := h y hy
    exact List.mem_map.2 ⟨z, hz, hzn⟩)
  simpa using this
/-- A name that is there gets another print. -/
theorem putE_there {l : List Ent} {nm : ByteArray} {c ch : Int} (hl : entsOk l = true) (hf : firstOf l nm = some c) (hp : pv ch = true) : entsOk (putE l ⟨nm, ch⟩) = true := by
  obtain ⟨h1, h2, h3⟩ := ents_iff.1 hl
  refine ents_iff.2 ⟨?_, ?_, putE_asc h3 _⟩
  · refine Nat.le_trans (nodup_len (putE_asc h3 _) h3 (fun x hx => ?_)) h1
    rcases (putE_mem h3).1 hx with rfl | h4
    · exact ⟨_, first_mem hf, rfl⟩
    · exact ⟨x, h4.1, rfl⟩
  · intro x hx
    rcases (putE_mem h3).1 hx with rfl | h4
    · exact entOk_iff.2 ⟨(first_pv hl hf).1, hp⟩
    · exact h2 x h4.1
theorem putEnt_on {l : List Ent} {e : Ent} (hl : entsOk l = true) (h : entsOk (putE l e) = true) : putEnt l e = (putE l e, true) := by unfold putEnt; rw [if_pos hl, if_pos h]
theorem putE_same {l : List Ent} {nm : ByteArray} {c : Int} (hl : entsOk l = true) (hf : firstOf l nm = some c) : putE l ⟨nm, c⟩ = l := by
  refine ents_ext (putE_there hl hf (first_pv hl hf).2) hl (fun x => ?_)
  rw [putE_mem (ents_asc hl)]
  constructor
  · rintro (rfl | h1)
    · exact first_mem hf
    · exact h1.1
  · intro hx
    by_cases hn : x.name = nm
    · left
      obtain ⟨a, b⟩ := x
      simp only at hn
      subst hn
      have := (first_iff hl).2 hx
      rw [hf] at this
      rw [Option.some.inj this]
    · exact .inr ⟨hx, hn⟩
theorem putE_twice {l : List Ent} {nm : ByteArray} {a b : Int} (hl : Asc l) : putE (putE l ⟨nm, a⟩) ⟨nm, b⟩ = putE l ⟨nm, b⟩ := by
  have h1 := putE_asc hl ⟨nm, a⟩
  refine ent_ext _ _ (putE_asc h1 _) (putE_asc hl _) (fun x => ?_)
  rw [putE_mem h1, putE_mem hl, putE_mem hl]
  constructor
  · rintro (h | ⟨rfl | h, h2⟩)
    · exact .inl h
    · exact absurd rfl h2
    · exact .inr h
  · rintro (h | h)
    · exact .inl h
    · exact .inr ⟨.inr h, h.2⟩
theorem putE_swap {l : List Ent} {a b : Ent} (hl : Asc l) (hne : a.name ≠ b.name) : putE (putE l a) b = putE (putE l b) a := by
  have h1 := putE_asc hl a
  have h2 := putE_asc hl b
  refine ent_ext _ _ (putE_asc h1 _) (putE_asc h2 _) (fun x => ?_)
  rw [putE_mem h1, putE_mem hl, putE_mem h2, putE_mem hl]
  constructor
  · rintro (rfl | ⟨rfl | h, h3⟩)
    · exact .inr ⟨.inl rfl, Ne.symm hne⟩
    · exact .inl rfl
    · exact .inr ⟨.inr ⟨h.1, h3⟩, h.2⟩
  · rintro (rfl | ⟨rfl | h, h3⟩)
    · exact .inr ⟨.inl rfl, hne⟩
    · exact .inl rfl
    · exact .inr ⟨.inr ⟨h.1, h3⟩, h.2⟩
theorem dropE_mem {l : List Ent} {nm : ByteArray} {x : Ent} : x ∈ dropE l nm ↔ x ∈ l ∧ x.name ≠ nm := by unfold dropE; simp
theorem dropE_ok {l : List Ent} (hl : entsOk l = true) (nm : ByteArray) : entsOk (dropE l nm) = true := by
  obtain ⟨h1, h2, h3⟩ := ents_iff.1 hl
  exact ents_iff.2 ⟨Nat.le_trans (dropE_len l nm) h1, fun x hx => h2 x (dropE_mem.1 hx).1, h3.sublist List.filter_sublist⟩
theorem dropEnt_on {l : List Ent} (hl : entsOk l = true) (nm : ByteArray) : (dropEnt l nm).1 = dropE l nm := by unfold dropEnt; rw [if_pos hl]
theorem dropE_first {l : List Ent} (hl : entsOk l = true) (nm : ByteArray) : firstOf (dropE l nm) nm = none := by
  cases hf : firstOf (dropE l nm) nm with
  | none => rfl
  | some c => exact absurd rfl (dropE_mem.1 (first_mem hf)).2
theorem putE_drop {l : List Ent} {nm : ByteArray} {c : Int} (hl : entsOk l = true) (hf : firstOf l nm = some c) : putE (dropE l nm) ⟨nm, c⟩ = l := by
  have h1 := ents_asc (dropE_ok hl nm)
  refine ent_ext _ _ (putE_asc h1 _) (ents_asc hl) (fun x => ?_)
  rw [putE_mem h1, dropE_mem]
  constructor
  · rintro (rfl | h)
    · exact first_mem hf
    · exact h.1.1
  · intro hx
    by_cases hn : x.name = nm
    · left
      obtain ⟨a, b⟩ := x
      simp only at hn
      subst hn
      have := (first_iff hl).2 hx
      rw [hf] at this
      rw [Option.some.inj this]
    · exact .inr ⟨⟨hx, hn⟩, hn⟩

/-! ### Drops -/
/-- What a drop puts, the last folder first, and the first folder's print; none if all are empty then. -/
def dropT : List (List Ent × ByteArray) → Option (List ByteArray × Int)
  | [] => none
  | (es, nm) :: r => match dropT r with
    | none => if dropE es nm = [] then none else some ([strL (folderText (dropE es nm))], printOf (folderText (dropE es nm)))
    | some (T, ch) => some (T ++ [strL (folderText (putEnt es ⟨nm, ch⟩).1)], printOf (folderText (putEnt es ⟨nm, ch⟩).1))
/-- The same, with the root's folder put in any case. -/
def dropTs (FZ : List (List Ent × ByteArray)) : List ByteArray × Int := (dropT FZ).getD ([strL (folderText [])], printOf (folderText []))
/-- Each folder has its name. -/
def Named (FZ : List (List Ent × ByteArray)) : Prop := ∀ x ∈ FZ, entsOk x.1 = true ∧ ∃ c, firstOf x.1 x.2 = some c
theorem printOf_pv {l : List UInt8} (h : textOk l = true) : pv (printOf l) = true := printOf_in h
theorem dropT_pv : ∀ {FZ : List (List Ent × ByteArray)} {T : List ByteArray} {p : Int}, Named FZ → dropT FZ = some (T, p) → pv p = true
  | [], T, p, _, h => by cases h
  | (es, nm) :: r, T, p, hn, h => by
    have ho := hn (es, nm) (by simp)
    have hr : Named r := fun x hx => hn x (by simp [hx])
    unfold dropT at h
    cases hd : dropT r with
    | none =>
      rw [hd] at h
      simp only [] at h
      split at h
      · cases h
      · simp only [Option.some.injEq, Prod.mk.injEq] at h
        rw [← h.2]
        exact printOf_pv (folder_textOk (dropE_ok ho.1 nm))
    | some TP =>
      obtain ⟨T', ch⟩ := TP
      rw [hd] at h
      simp only [Option.some.injEq, Prod.mk.injEq] at h
      obtain ⟨c, hc⟩ := ho.2
      have hch := dropT_pv hr hd
      have := putE_there ho.1 hc hch
      rw [← h.2, putEnt_on ho.1 this]
      exact printOf_pv (folder_textOk this)

def putsTo (s : List Pc) (es : List Ent) (R : Option (List Pc)) : Prop := match R with | none => (putS s (strL (folderText es))).2.2 = false | some s' => putS s (strL (folderText es)) = (s', printOf (folderText es), true)
theorem putS_all {s : List Pc} {es : List Ent} (hs : storeOk s = true) : putsTo s es (putAll s [strL (folderText es)]) := by
  rw [putAll_one]
  unfold putsTo
  by_cases hp : (putS s (strL (folderText es))).2.2 = true
  · rw [if_pos hp]
    have := (put_get hs hp).2.2.1
    rw [bs_strL] at this
    simp only []
    rw [← this, ← hp]
  · rw [if_neg hp]
    simpa using hp

/-- The folders and names on a way that leads somewhere. -/
noncomputable def wayD (s : List Pc) : Int → List ByteArray → List (List Ent × ByteArray)
  | _, [] => []
  | pr, nm :: r => (entsOf (textAt s pr), nm) :: wayD s ((firstOf (entsOf (textAt s pr)) nm).getD (-1)) r
theorem entsOf_ok (l : List UInt8) : entsOk (entsOf l) = true := by
  unfold entsOf
  cases h : readFolder l with
  | none => rfl
  | some es => exact (readFolder_some h).1
theorem walk_named : ∀ (parts : List ByteArray) (s : List Pc) (pr : Int), (walkAt s pr parts).2 = true → Named (wayD s pr parts)
  | [], s, pr, _ => fun x hx => by simp [wayD] at hx
  | nm :: r, s, pr, h => by
    unfold walkAt at h
    unfold wayD
    cases hf : firstOf (entsOf (textAt s pr)) nm with
    | none => rw [hf] at h; cases h
    | some ch =>
      rw [hf] at h
      intro x hx
      rcases List.mem_cons.1 hx with rfl | hx
      · exact ⟨entsOf_ok _, ch, hf⟩
      · exact walk_named r s ch h x hx
theorem wayD_len : ∀ (parts : List ByteArray) (s : List Pc) (pr : Int), (wayD s pr parts).length = parts.length
  | [], _, _ => rfl
  | nm :: r, s, pr => by simp [wayD, wayD_len r]

theorem dropIn_eq {s : List Pc} (hs : storeOk s = true) : ∀ (parts : List ByteArray) (pr : Int), parts ≠ [] → Named (wayD s pr parts) →
    match dropT (wayD s pr parts) with
    | none => dropIn s pr parts = (s, -1, true)
    | some (T, p) => match putAll s T with
      | none => (dropIn s pr parts).2.2 = false
      | some s' => dropIn s pr parts = (s', p, true)
  | [], _, h, _ => absurd rfl h
  | nm :: rest, pr, _, hn => by
    have ho := hn (entsOf (textAt s pr), nm) (by simp [wayD])
    obtain ⟨c, hc⟩ := ho.2
    simp only at hc ho
    have hch : childOf (entsOf (textAt s pr)) nm = c := by rw [child_first ho.1, hc]; rfl
    have hc0 := (pv_iff.1 (first_pv ho.1 hc).2).1
    have hr : Named (wayD s c rest) := fun x hx => hn x (by simp only [wayD, hc, Option.getD_some, List.mem_cons]; exact .inr hx)
    have hwd : wayD s pr (nm :: rest) = (entsOf (textAt s pr), nm) :: wayD s c rest := by simp only [wayD, hc, Option.getD_some]
    rw [hwd]
    unfold dropT dropIn
    rw [hch, if_neg (show ¬ c < 0 by omega)]
    by_cases h0 : rest = []
    · subst h0
      rw [if_pos rfl]
      simp only [wayD, dropT]
      have hle : leftE (entsOf (textAt s pr)) nm (-1) = dropE (entsOf (textAt s pr)) nm := by unfold leftE; rw [if_neg (by omega), dropEnt_on ho.1]
      rw [hle]
      unfold dropEnd
      by_cases hd : dropE (entsOf (textAt s pr)) nm = []
      · rw [if_pos hd, if_pos hd]
      · rw [if_neg hd, if_neg hd]
        exact putS_all hs
    · rw [if_neg h0]
      have ih := dropIn_eq hs rest c h0 hr
      cases hd : dropT (wayD s c rest) with
      | none =>
        rw [hd] at ih
        simp only [] at ih ⊢
        rw [ih]
        simp only [Bool.true_eq_false, if_false]
        have hle : leftE (entsOf (textAt s pr)) nm (-1) = dropE (entsOf (textAt s pr)) nm := by unfold leftE; rw [if_neg (by omega), dropEnt_on ho.1]
        rw [hle]
        unfold dropEnd
        by_cases hde : dropE (entsOf (textAt s pr)) nm = []
        · rw [if_pos hde, if_pos hde]
        · rw [if_neg hde, if_neg hde]
          exact putS_all hs
      | some TP =>
        obtain ⟨T, p⟩ := TP
        rw [hd] at ih
        simp only [] at ih ⊢
        have hp := dropT_pv hr hd
        have hput := putE_there ho.1 hc hp
        have hle : leftE (entsOf (textAt s pr)) nm p = putE (entsOf (textAt s pr)) ⟨nm, p⟩ := by unfold leftE; rw [if_pos (pv_iff.1 hp).1, putEnt_on ho.1 hput]
        rw [putEnt_on ho.1 hput, putAll_append]
        cases hpa : putAll s T with
        | none =>
          rw [hpa] at ih
          simp only [] at ih
          rw [if_pos ih]
          rfl
        | some s1 =>
          rw [hpa] at ih
          simp only [] at ih
          rw [ih]
          simp only [Bool.true_eq_false, if_false, Option.bind_some]
          rw [hle]
          have hne : putE (entsOf (textAt s pr)) ⟨nm, p⟩ ≠ [] := by rw [putE_eq]; simp
          unfold dropEnd
          rw [if_neg hne]
          exact putS_all (putAll_le hs hpa).1

def droppedTo (R : List Pc × Int × Bool) (p : Int) (A : Option (List Pc)) : Prop := match A with | none => R.2.2 = false | some s' => R = (s', p, true)
/-- A drop: the way, and what is put on the way back. -/
noncomputable def dropOff (s : List Pc) (root : Int) (ws : List ByteArray) : Option (List Pc × Int) :=
  match putAll s (dropTs (wayD s root ws)).1 with
  | none => none
  | some s' => some (s', (dropTs (wayD s root ws)).2)
theorem dropAt_eq {s : List Pc} {root : Int} {path : List UInt8} {ws : List (List UInt8)} (hs : storeOk s = true) (hp : pathParts path = some ws) (h0 : ws ≠ []) (hw : (walkAt s root (ws.map strL)).2 = true) :
    dropAt s root path = match dropOff s root (ws.map strL) with | none => (s, root, false) | some (s', p) => (s', p, true) := by
  have hn := walk_named _ s root hw
  have hd := dropIn_eq hs (ws.map strL) root (by simpa using h0) hn
  have hto : droppedTo (dropTo s root (ws.map strL)) (dropTs (wayD s root (ws.map strL))).2 (putAll s (dropTs (wayD s root (ws.map strL))).1) := by
    unfold dropTs dropTo
    cases hdt : dropT (wayD s root (ws.map strL)) with
    | none =>
      rw [hdt] at hd
      simp only [] at hd
      rw [hd]
      simp only [Option.getD_none]
      rw [if_pos (show True ∧ (-1 : Int) < 0 from ⟨trivial, by omega⟩)]
      exact putS_all (es := []) hs
    | some TP =>
      obtain ⟨T, p⟩ := TP
      rw [hdt] at hd
      simp only [Option.getD_some] at hd ⊢
      have hpp := (pv_iff.1 (dropT_pv hn hdt)).1
      cases hpa : putAll s T with
      | none =>
        rw [hpa] at hd
        simp only [droppedTo] at hd ⊢
        rw [if_neg (by rw [hd]; simp), hd]
      | some s1 =>
        rw [hpa] at hd
        simp only [droppedTo] at hd ⊢
        rw [hd, if_neg (by simp; omega)]
  unfold dropAt
  rw [hp]
  simp only []
  rw [if_neg (fun h => h.elim (fun h => by rw [hs] at h; cases h) h0), if_neg (by rw [hw]; simp)]
  unfold dropOff
  cases hpa : putAll s (dropTs (wayD s root (ws.map strL))).1 with
  | none => rw [hpa] at hto; simp only [droppedTo] at hto ⊢; rw [if_pos hto]
  | some s1 => rw [hpa] at hto; simp only [droppedTo] at hto ⊢; rw [hto]; simp

end Go.Proofs.YtfdhaigmekmboaaDoor

/- Rows of pieces as a walk asks for them. No program in sight. -/
namespace Go.Proofs.YtfdhaigmekmboaaDoor
open Go.RowKit

abbrev encP (p : Pc) : List Value := [.int .i64 p.print, .string p.text]
abbrev Pcs := Rd encP 2
abbrev pcv (p : Pc) : Value := .agg #[.int .i64 p.print, .string p.text]
theorem Rd.pcs {w : World} {B n : Nat} {v : Value} {xs : List Pc} (h : Pcs w B v xs) (hn : xs.length = n) :
    ∃ a c, v = .slice a n c ∧ n ≤ c ∧ c ≤ 9223372036854775807 ∧
      ∀ i, i < n → ∃ (b o : Nat) (r : Int) (t : ByteArray), a = some ⟨b, o, none⟩ ∧ b < B ∧ Hid (xs[i]? = some ⟨r, t⟩) ∧ w.cell? ⟨b, o + i * 2, none⟩ = some (.int .i64 r) ∧ w.cell? ⟨b, o + i * 2 + 1, none⟩ = some (.string t) := by
  obtain ⟨a, c, hv, h1, h2, h3⟩ := Rd.openN h (fun _ => rfl) hn
  refine ⟨a, c, hv, h1, h2, fun i hi => ?_⟩
  obtain ⟨b, o, ⟨r, t⟩, ha, hb, hx, hc⟩ := h3 i hi
  exact ⟨b, o, r, t, ha, hb, hx, by simpa using hc 0 _ rfl, by simpa [Nat.add_assoc] using hc 1 _ rfl⟩
theorem flatP_get {xs : List Pc} {k : Nat} {x : Pc} (h : xs[k]? = some x) : (xs.flatMap encP)[k * 2]? = some (.int .i64 x.print) ∧ (xs.flatMap encP)[k * 2 + 1]? = some (.string x.text) :=
  ⟨by simpa using flatMap_get (enc := encP) (fun _ => rfl) xs k 0 x _ h rfl, flatMap_get (enc := encP) (fun _ => rfl) xs k 1 x _ h rfl⟩
theorem flatP_len (xs : List Pc) : (xs.flatMap encP).length = xs.length * 2 := by
  induction xs with
  | nil => rfl
  | cons x r ih => rw [List.flatMap_cons, List.length_append, ih]; simp; omega
theorem two_cells_of {w : World} {g : Nat} {t : TypeId} {x y : Value} (h : w.heap[g]? = some (.cells #[x, y] t (0, 0))) :
    w.cell? ⟨g, 0, none⟩ = some x ∧ w.cell? ⟨g, 1, none⟩ = some y ∧ w.frozen? ⟨g, 0, none⟩ = false ∧ w.frozen? ⟨g, 1, none⟩ = false := by
  refine ⟨?_, ?_, frozen_of_row _ _ _ _ _ h, frozen_of_row _ _ _ _ _ h⟩ <;> simp [World.cell?, h]
theorem row_onP {w w' : World} {base e k n : Nat} {v : Value} {cs : List Value} (h : w.ownsRow base e k v n cs) (hb : Below w.heap.size w w') : w'.ownsRow base e k v n cs := by
  refine ⟨h.1, ?_⟩
  rcases h.2 with h2 | ⟨g, cap, cur, hv, hg, hh, r⟩
  · exact .inl h2
  · exact .inr ⟨g, cap, cur, hv, hg, (hb.block g (Array.getElem?_eq_some_iff.1 hh).1).trans hh, r⟩

def szPcs (xs : List Pc) : Nat := (xs.map fun x => x.text.size).sum
theorem szPcs_succ {xs : List Pc} {k : Nat} {x : Pc} (h : xs[k]? = some x) : szPcs (xs.take (k + 1)) = szPcs (xs.take k) + x.text.size := by
  unfold szPcs; rw [take_snoc' h]; simp
theorem szPcs_take (xs : List Pc) (k : Nat) : szPcs (xs.take k) ≤ szPcs xs := by
  have : szPcs xs = szPcs (xs.take k) + szPcs (xs.drop k) := by
    unfold szPcs; rw [← List.sum_append, ← List.map_append, List.take_append_drop]
  omega
theorem szPcs_mem {xs : List Pc} {x : Pc} (h : x ∈ xs) : x.text.size ≤ szPcs xs := by
  obtain ⟨k, hk, rfl⟩ := List.getElem_of_mem h
  have h1 := szPcs_succ (List.getElem?_eq_getElem hk)
  have h2 := szPcs_take xs (k + 1)
  omega
/-- What is left of the measure: all fits, or not. -/
def szLeftP (left : Int) (xs : List Pc) : Int := if left < xs.length + szPcs xs then -1 else left - xs.length - szPcs xs

end Go.Proofs.YtfdhaigmekmboaaDoor
