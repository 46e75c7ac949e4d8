/-
  Facts about the whole program that each law's frame wants.
-/
import Derived.Test.YtamogedpgkofjaaGreatLaw
namespace Go.Proofs.YtamogedpgkofjaaGreat
open Go Go.RowKit
theorem jndLaid : laidOutB Tryz.prog = true := by kernel_rfl
theorem jndStops : (Tryz.prog.stops == []) = true := by kernel_rfl
theorem jndKnobs : (Tryz.prog.stopKnobs == []) = true := by kernel_rfl
theorem jndMaps : mapsRowed Tryz.prog = true := by kernel_rfl
theorem jndHeard : Tryz.prog.stopsHeard = true := by kernel_rfl
theorem jndEnter : Tryz.prog.mayEnter = true := by kernel_rfl
end Go.Proofs.YtamogedpgkofjaaGreat
