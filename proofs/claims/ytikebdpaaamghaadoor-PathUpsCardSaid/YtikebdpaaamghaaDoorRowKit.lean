/- From what a row gives to what the walks ask: the listed variables; a world that holds them, for the witness; []string arguments. -/
import Derived.Test.YtikebdpaaamghaaDoorCards
import Derived.Test.YtikebdpaaamghaaDoorTie
import Derived.Test.YtikebdpaaamghaaDoorErr
import Derived.Test.YtikebdpaaamghaaDoorShelf
import Derived.ProofKit
import Derived.OpenShut
import Derived.Deep.DeepHandedRow
import Derived.Deep.Strs
import Derived.LaidHandle
import Derived.LaidLaws
import Derived.ChangeSame
import Derived.Carry
import Derived.SliceStrings
import Derived.SevenTiedAt
namespace Go.Proofs.YtikebdpaaamghaaDoor
open Go.ChangeShapes Go.WideShapes Go.ChangeAt Go.RowKit

theorem own : ownKnob Tryd.prog.godebug = none := by kernel_rfl
theorem et : Tryd.prog.globalNamed "errors.errorType" = some 0 := by kernel_rfl
theorem rt : (Tryd.prog.cutTypes.find? (·.1 == "internal/reflectlite.rtype")).map (·.2) = some 76 := by kernel_rfl
theorem oneRow : ((List.range 128).filter fun t => Tryd.prog.rowNamed t [101, 114, 114, 111, 114]) = [27] := by kernel_rfl
theorem tsize : Tryd.prog.types.size = 128 := by kernel_rfl
theorem th : typeHandle Tryd.prog 27 = .pointer (some ⟨4, 27, none⟩) := by kernel_rfl

/-- What the handle's premise gives a walk: the variable's one cell. -/
theorem handle_cell {W : World} {l : List (String × DataW Unit)} (h : handlesMet Tryd.prog l W)
    (hm : ("errors.errorType", (.iface "internal/reflectlite.rtype" (.agg [.ptr (.lit (.string [101, 114, 114, 111, 114]))]) : DataW Unit)) ∈ l) :
    W.cell? ⟨0, 0, none⟩ = some (.iface 76 (.agg #[.pointer (some ⟨4, 27, none⟩)])) := by
  obtain ⟨name, u, ty, e1, e2, e3, e4, e5⟩ := h _ hm
  have en : name = [101, 114, 114, 111, 114] := (Option.some.inj e1).symm
  subst en
  obtain rfl := Option.some.inj (rt.symm.trans e2)
  have hmem : ty ∈ (List.range 128).filter fun t => Tryd.prog.rowNamed t [101, 114, 114, 111, 114] := List.mem_filter.2 ⟨List.mem_range.2 (by rw [← tsize]; exact e3), e4⟩
  rw [oneRow] at hmem
  obtain rfl := List.mem_singleton.1 hmem
  rw [th] at e5
  simpa using World.var?_cell et e5 0

/-- The cells of plain data: an array of numbers, or of structs of numbers. -/
def litVal : DataW Unit → Value
  | .lit (.int k n) => .int k n
  | _ => undef
def aggParts : DataW Unit → List (DataW Unit)
  | .agg ps => ps
  | d => [d]
def litCells (d : DataW Unit) : List Value := ((aggParts d).flatMap aggParts).map litVal
def recell (cs : Array Value) : Obj → Obj
  | .cells _ t frozen => .cells cs t frozen
  | o => o
/-- A world for the witness: the settled one, with the listed variables laid. -/
noncomputable def laidWorld (os : Os) : World :=
  { World.holding Tryd.prog os ⟨#[], #[], []⟩ with heap :=
      ((World.holding Tryd.prog os ⟨#[], #[], []⟩).heap.modify 0 (recell #[.iface 76 (.agg #[.pointer (some ⟨4, 27, none⟩)])])
        |>.modify 2 (recell (litCells Rows.laid_unicode_utf8_first).toArray)
        |>.modify 3 (recell (litCells Rows.laid_unicode_utf8_acceptRanges).toArray)) }

theorem laidOut : laidOutB Tryd.prog = true := by kernel_rfl
theorem cellsStr : Tryd.prog.cellsOf 9 = 1 := by kernel_rfl

/-- A []string that came in, nil or not. -/
theorem open_arg {H : Type} {enc : TypeId × Value → H} {W : World} {a0 : Option Addr} {len cap fuel : Nat} {x : DataW H × List MemPlace}
    (hf : DataW.trod enc Tryd.prog W 0 (fun _ => true) true fuel 22 [.slice a0 len cap] = some x) :
    ∃ l : List Str, SlOf W [] (.slice a0 len cap) l := by
  rcases open_strings Tryd.underlying22 Tryd.underlying9 cellsStr hf with ⟨hcs, hx⟩ | ⟨a, len', cap', ss, hcs, _, hl, hm, hz, hx, hcell, hsz⟩
  · simp at hcs
    obtain ⟨rfl, rfl, rfl⟩ := hcs
    exact ⟨[], none, 0, rfl, Nat.le_refl _, by omega, fun _ => rfl, .inl rfl⟩
  · simp at hcs
    obtain ⟨rfl, rfl, rfl⟩ := hcs
    simp only [if_true] at hz
    unfold maxLen at hm hsz
    have hlen : ((ss.take len).map (·.data.toList)).length = len := by simp; omega
    refine ⟨(ss.take len).map (·.data.toList), some a, cap, by rw [hlen], by rw [hlen]; exact hl, by omega, fun h => (by cases h), ?_⟩
    by_cases h0 : len = 0
    · left; subst h0; rfl
    · right
      obtain ⟨b, off, spot⟩ := a
      have hspot : spot = none := by simpa [Addr.add] using World.cell?_spot (hcell 0 (by omega))
      subst hspot
      have hcell' : ∀ i, i < ss.length → W.cell? ⟨b, off + i, none⟩ = some (.string (ss.getD i ByteArray.empty)) := fun i hi => by
        have := hcell i hi
        unfold Addr.add at this
        by_cases hi0 : i = 0
        · subst hi0; simpa using this
        · simpa [hi0] using this
      have hlt := lt_of_cell (hcell' 0 (by omega))
      refine ⟨b, off, rfl, by simp, hlt, fun i x hi => ?_⟩
      rw [List.getElem?_map, List.getElem?_take] at hi
      split at hi
      · rename_i hil
        obtain ⟨y, hy, rfl⟩ := Option.map_eq_some_iff.1 hi
        have hmem := List.mem_of_getElem? hy
        refine ⟨[S y.data.toList], ⟨rfl, ?_⟩, fun j v hj => ?_⟩
        · have := hsz y hmem; rw [Lib.size_eq] at this; omega
        · cases j with
          | zero =>
            have h1 := hcell' i (by omega)
            rw [List.getD_eq_getElem?_getD, hy] at h1
            simp at hj
            subst hj
            simpa [Rep.sz] using h1
          | succ j => simp at hj
      · simp at hi

theorem lastRow : ((((begin Tryd.prog (fun _ _ => 0) default).world.heap[4 - 1]?).bind Obj.row?).isSome) = true := by kernel_rfl
theorem globalsN : Tryd.prog.globals.size = 4 := by kernel_rfl
/-- The package-level variables lie below the heap's size. -/
theorem globals_le {W : World} (h : W.ShapedOpen Tryd.prog) : 4 ≤ W.heap.size := by
  obtain ⟨⟨zero, t⟩, hz⟩ := Option.isSome_iff_exists.1 lastRow
  obtain ⟨cs, hc, _⟩ := h.1 (4 - 1) zero t (by rw [globalsN]; decide) hz
  rcases Nat.lt_or_ge (4 - 1) W.heap.size with h1 | h1
  · omega
  · rw [Array.getElem?_eq_none h1] at hc; cases hc

theorem glob_of {W : World} {l : List (String × DataW Unit)} (h : handlesMet Tryd.prog l W)
    (hm : ("errors.errorType", (.iface "internal/reflectlite.rtype" (.agg [.ptr (.lit (.string [101, 114, 114, 111, 114]))]) : DataW Unit)) ∈ l) (hs : W.ShapedOpen Tryd.prog) : Glob W :=
  ⟨handle_cell h hm, Tryd.laysM146.s1_3 W hs⟩

end Go.Proofs.YtikebdpaaamghaaDoor
