/- What an argument is, off its reading: rows of numbers, structs, rows of structs. No program in sight. -/
import Derived.Test.YtachfmlfmpaddaaGreatDoorMg2
import Derived.ProofKit
import Derived.OpenShut
import Derived.ShutString
import Derived.ChangeOld
import Derived.Lib.SmallJoins
namespace Go.Proofs.YtachfmlfmpaddaaGreatDoor
open Go.RowKit
open Go.ChangeShapes Go.WideShapes Go.ChangeAt Go.Joins Go.Deep
open Go.ChangeMaps (open_string shut_string)

section
variable {H : Type} {enc : TypeId × Value → H} {P : Program} {W : World} {base : Nat} {spare : Nat → Bool} {held : Bool} {r : Reach} {b0 : Nat}

/-- A row of numbers. -/
theorem open_row {k : IntKind} {t e : TypeId} {a : Option Addr} {len cap : Nat} {d : DataW H} {p : List MemPlace} (ht : P.underlying t = some (.slice e)) (he : P.underlying e = some (.int k)) (hc : P.cellsOf e = 1)
    (h : DataW.Trod enc P W base (fun _ => true) held t (.slice a len cap) d p) : ∃ zs, IsRow k W a len cap zs := by
  obtain ⟨fuel, hf⟩ := h
  rcases open_ints ht he hc hf with ⟨hcs, _⟩ | ⟨x, l, c, zs, hcs, _, hl, hm, hz, _, hcell, hwz⟩
  · simp [Value.cells] at hcs
    obtain ⟨rfl, rfl, rfl⟩ := hcs
    exact ⟨[], .inl ⟨rfl, rfl, rfl, rfl⟩⟩
  · simp [Value.cells] at hcs
    obtain ⟨rfl, rfl, rfl⟩ := hcs
    exact ⟨zs, .inr ⟨_, rfl, hl, hm, by simpa using hz, hcell, hwz⟩⟩

/-- A struct of two numbers and a text. -/
theorem open_iis {t : TypeId} {f0 f1 f2 : Field} {v : Value} {d : DataW H} {p : List MemPlace} (ht : P.underlying t = some (.struct #[f0, f1, f2])) (hi : P.underlying f0.type = some (.int .i64)) (hs : P.underlying f2.type = some .string)
    (hone : oneCellFields P #[f0, f1, f2] = true) (hj : f1.type = f0.type) (hC : P.cellsOf t = 3) (hv : Value.okWide P W r b0 t v) (h : DataW.Trod enc P W base spare held t v d p) :
    ∃ (x y : Int) (s : ByteArray), v = .agg #[.int .i64 x, .int .i64 y, .string s] ∧ s.size ≤ maxLen := by
  obtain ⟨c0, c1, c2, y0, y1, y2, n, rfl, _, _, h0, h1, h2⟩ := open_agg3 ht hone hC hv h
  obtain ⟨x, e0, _, _⟩ := DataW.trod_int hi h0
  obtain ⟨y, e1, _, _⟩ := DataW.trod_int (hj ▸ hi) h1
  obtain ⟨s, e2, _, hs⟩ := DataW.trod_string hs h2
  simp only [List.cons.injEq, and_true] at e0 e1 e2
  subst e0 e1 e2
  exact ⟨x, y, s, rfl, hs⟩

/-- A struct of a number and a row of numbers. -/
theorem open_cache {t e : TypeId} {f0 f1 : Field} {v : Value} {d : DataW H} {p : List MemPlace} (ht : P.underlying t = some (.struct #[f0, f1])) (hi : P.underlying f0.type = some (.int .i64)) (hsl : P.underlying f1.type = some (.slice e)) (he : P.underlying e = some (.int .i64))
    (hce : P.cellsOf e = 1) (hone : oneCellFields P #[f0, f1] = true) (hC : P.cellsOf t = 2) (hv : Value.okWide P W r b0 t v) (h : DataW.Trod enc P W base (fun _ => true) held t v d p) :
    ∃ (x : Int) (a : Option Addr) (len cap : Nat) (zs : List Int), v = .agg #[.int .i64 x, .slice a len cap] ∧ IsRow .i64 W a len cap zs := by
  obtain ⟨c0, c1, y0, y1, n, rfl, _, _, h0, h1⟩ := open_agg2 ht hone hC hv h
  obtain ⟨x, e0, _, _⟩ := DataW.trod_int hi h0
  simp only [List.cons.injEq, and_true] at e0
  subst e0
  rcases open_ints hsl he hce h1 with ⟨hcs, _⟩ | ⟨b, l, c, zs, hcs, _, hl, hm, hz, _, hcell, hwz⟩
  · simp only [List.cons.injEq, and_true] at hcs
    subst hcs
    exact ⟨x, none, 0, 0, [], rfl, .inl ⟨rfl, rfl, rfl, rfl⟩⟩
  · simp only [List.cons.injEq, and_true] at hcs
    subst hcs
    exact ⟨x, _, l, c, zs, rfl, .inr ⟨_, rfl, hl, hm, by simpa using hz, hcell, hwz⟩⟩
end
end Go.Proofs.YtachfmlfmpaddaaGreatDoor
