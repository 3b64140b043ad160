/- Facts on the loaded program that all cards of this seat share: its variables, and a world in which they are laid. -/
import Derived.Test.YtfbepdlahaefgaaDoorRows
import Derived.Test.YtfbepdlahaefgaaDoorRefW
import Derived.Test.YtfbepdlahaefgaaDoorKit
import Derived.Stop.LaidErr
namespace Go.Proofs.YtfbepdlahaefgaaDoor
open Go.ChangeShapes Go.WideShapes Go.ChangeAt Go.RowKit
theorem own : ownKnob Tryd.prog.godebug = none := by kernel_rfl
theorem laidOut : laidOutB Tryd.prog = true := by kernel_rfl
theorem gShort : Tryd.prog.globalNamed "regatta/crc.short" = some 0 := by kernel_rfl
theorem gShortType : (Tryd.prog.globals[0]?).map (·.type) = some 76 := by kernel_rfl
def shortL : List Int := [0, 498536548, 997073096, 651767980, 1994146192, 1802195444, 1303535960, 1342533948, 3988292384, 4027552580, 3604390888, 3412177804, 2607071920, 2262029012, 2685067896, 3183342108]
theorem short_is : ∀ k : Fin 16, shortL.getD k.val 0 = ((Crc.shortT k.val).toNat : Int) := by decide
theorem tab_of_laid {rest : List (String × DataW Unit)} {W : World} (h : laidMet Tryd.prog (("regatta/crc.short", Rows.laid_regatta_crc_short) :: rest) W) : Tab W := by
  have t := Lib.tabIs_of_head (zs := shortL) (rest := rest) gShort gShortType Tryd.underlying76 Tryd.underlying25 (by kernel_rfl) (by kernel_rfl) h
  have cell : ∀ k, k < 16 → W.cell? ⟨0, k, none⟩ = some (.int .u32 ((Crc.shortT k).toNat : Int)) := fun k hk => by
    rw [t.cell gShort k (by simpa [shortL] using hk), short_is ⟨k, hk⟩]
  exact ⟨lt_of_cell (cell 0 (by omega)), cell⟩
theorem gPowers : Tryd.prog.globalNamed "regatta/regattaref11.powers" = some 1 := by kernel_rfl
theorem gPowersType : (Tryd.prog.globals[1]?).map (·.type) = some 88 := by kernel_rfl
def powersI : List Int := [26, 23, 22, 16, 12, 11, 10, 8, 7, 5, 4, 2, 1, 0]
theorem powers_is : ∀ k : Fin 14, powersI.getD k.val 0 = ((Crc.powersL[k.val]'k.isLt : Nat) : Int) := by decide
theorem pow_of_laid {x : String × DataW Unit} {rest : List (String × DataW Unit)} {W : World} (h : laidMet Tryd.prog (x :: ("regatta/regattaref11.powers", Rows.laid_regatta_regattaref11_powers) :: rest) W) : Pow W := by
  have t := Lib.tabIs_of_head (zs := powersI) (rest := rest) gPowers gPowersType Tryd.underlying88 Tryd.underlying3 (by kernel_rfl) (by kernel_rfl) (laidMet.tail h)
  have cell : ∀ k (hk : k < 14), W.cell? ⟨1, k, none⟩ = some (.int .i64 ((Crc.powersL[k]'hk : Nat) : Int)) := fun k hk => by
    rw [t.cell gPowers k (by simpa [powersI] using hk), powers_is ⟨k, hk⟩]
  exact ⟨lt_of_cell (cell 0 (by omega)), cell⟩
/-- A world for the witness: the settled one, the table holding what its initialiser lays. -/
noncomputable def laidWorld1 (os : Os) : World :=
  { World.holding Tryd.prog os ⟨#[], #[], []⟩ with heap := (World.holding Tryd.prog os ⟨#[], #[], []⟩).heap.modify 0 fun
      | .cells _ t frozen => .cells (shortL.map (Value.int .u32)).toArray t frozen
      | o => o }
noncomputable def laidWorld2 (os : Os) : World :=
  { laidWorld1 os with heap := (laidWorld1 os).heap.modify 1 fun
      | .cells _ t frozen => .cells (powersI.map (Value.int .i64)).toArray t frozen
      | o => o }
end Go.Proofs.YtfbepdlahaefgaaDoor
