/- awake() of topiarylaw05 answers true. -/
import Derived.Test.YtkfkpiphbflokaaGreatDoorCo
namespace Go.Proofs.YtkfkpiphbflokaaGreatDoor
open Go Go.Eng Go.RowKit

def prsA : List (FuncId × Ext) := [(99, .row Extern.BytealgIndexByte.indexByte), (104, .same), (105, .makeNoZero 5), (117, .row Extern.BytealgIndex.index), (129, .row Extern.BytealgCount.count)]
theorem prsA_ok [Sig] : PrimsOK Tryz.prog prsA := by
  intro f k h
  simp only [prsA, List.mem_cons, Prod.mk.injEq, List.not_mem_nil, or_false] at h
  rcases h with ⟨rfl, rfl⟩ | ⟨rfl, rfl⟩ | ⟨rfl, rfl⟩ | ⟨rfl, rfl⟩ | ⟨rfl, rfl⟩
  · exact .row Tryz.f99 Tryz.func99 (by kernel_rfl) (by kernel_rfl) (by kernel_rfl) (by kernel_rfl)
  · exact .same Tryz.f104 Tryz.func104 (by kernel_rfl) (by kernel_rfl) (by kernel_rfl) (by kernel_rfl)
  · exact .makeNoZero (t := 80) (ps := Tryz.f105.params) Tryz.f105 Tryz.func105 (by kernel_rfl) (by kernel_rfl) (by kernel_rfl) (by kernel_rfl) (by kernel_rfl)
  · exact .row Tryz.f117 Tryz.func117 (by kernel_rfl) (by kernel_rfl) (by kernel_rfl) (by kernel_rfl)
  · exact .row Tryz.f129 Tryz.func129 (by kernel_rfl) (by kernel_rfl) (by kernel_rfl) (by kernel_rfl)
set_option maxRecDepth 100000 in
theorem awake_run : ansIs ((hands Tryz.prog (prims Tryz.prog prsA) noBin noUn (399 + 1)).call 8 [] (Eng.start Tryz.prog)) (.bool true) = true := by kernel_rfl
theorem awake_any (w : World) : Ans Tryz.prog 8 #[] (.bool true) w := by
  letI : Sig := sigP [] rfl w
  obtain ⟨H', h⟩ := ansIs_spec awake_run
  exact run_calls (P := Tryz.prog) (l := prsA) (bn := noBin) (un := noUn) (n := 399) (f := 8) (fn := Tryz.f8) (args := []) (v := .bool true) (H' := H') prsA_ok noBin_ok noUn_ok mixed Tryz.func8 rfl h rfl rfl w (.refl _ w) (Nat.le_refl _)
end Go.Proofs.YtkfkpiphbflokaaGreatDoor
