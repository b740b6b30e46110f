/- The law 'PlainObjects' over an array of two or more elements: the verifier's part, written out. -/
import Derived.Test.YtkaladiliikheaaGreatDoorPlO
import Derived.Test.YtkaladiliikheaaGreatDoorEngV2
set_option linter.unusedVariables false
set_option linter.unusedSectionVars false
namespace Go.Proofs.YtkaladiliikheaaGreatDoor.plain
open Go.Eng
set_option maxRecDepth 100000
/-- A heap of objects by their numbers. -/
noncomputable def hpOf (l : List (Nat × Obj)) (t : T Obj) : T Obj := List.rec (motive := fun _ => T Obj → T Obj) (fun t => t) (fun x _ ih t => ih (T.put (some x.2) t x.1)) l t
noncomputable def oS0L : List (Nat × Obj) := [
  (4, (.cells [(.int .i64 3), (.slice none 0 0), (.int .i64 0)].toArray 60 (0, 0))),
  (5, (.cells [(.int .i64 1), (.float .f64 4), (.int .i64 0), (.int .i64 1), (.int .i64 7), (.int .i64 0), (.int .i64 25), (.int .i64 2), (.int .i64 0), (.int .i64 4), (.int .i64 0), (.int .i64 0), (.int .i64 1), (.float .f64 4), (.int .i64 0), (.int .i64 1), (.int .i64 7), (.int .i64 0), (.int .i64 25), (.int .i64 2), (.int .i64 0), (.int .i64 4), (.int .i64 1), (.int .i64 0), (.int .i64 3), (.int .i64 0), (.int .i64 0), (.int .i64 1), (.float .f64 5), (.int .i64 0), (.int .i64 36), (.int .i64 0), (.int .i64 0), (.int .i64 27), (.int .i64 2), (.int .i64 0), (.int .i64 3), (.int .i64 0), (.int .i64 0), (.int .i64 1), (.float .f64 5), (.int .i64 0), (.int .i64 26), (.int .i64 2), (.int .i64 0), (.int .i64 35), (.int .i64 0), (.int .i64 0), (.int .i64 3), (.int .i64 1), (.int .i64 0), (.int .i64 1), (.float .f64 5), (.int .i64 0), (.int .i64 26), (.int .i64 2), (.int .i64 0), (.int .i64 35), (.int .i64 0), (.int .i64 0), (.int .i64 3), (.int .i64 0), (.int .i64 0), (.int .i64 1), (.float .f64 8), (.int .i64 0), (.int .i64 26), (.int .i64 2), (.int .i64 0), (.int .i64 35), (.int .i64 0), (.int .i64 0), (.int .i64 1), (.int .i64 0), (.int .i64 0), (.int .i64 4), (.int .i64 0), (.int .i64 0), (.int .i64 3), (.int .i64 1), (.int .i64 0), (.int .i64 28), (.int .i64 2), (.int .i64 0), (.int .i64 21), (.int .i64 0), (.int .i64 0)].toArray 26 (0, 0))),
  (6, (.cells [(.slice none 0 0), (.int .i64 0), (.int .i64 2), (.slice (some ⟨5, 0, none⟩) 29 3)].toArray 30 (0, 0))),
  (7, (.cells [(.slice (some ⟨4, 0, none⟩) 1 3), (.slice (some ⟨6, 0, none⟩) 1 4)].toArray 34 (0, 0)))]
noncomputable def oS0 : S := ⟨hpOf oS0L .l, 8, 1, 4, 1⟩
noncomputable def oS1L : List (Nat × Obj) := [
  (4, (.cells [(.int .i64 3), (.slice none 0 0), (.int .i64 0)].toArray 60 (0, 0))),
  (5, (.cells [(.int .i64 1), (.float .f64 4), (.int .i64 0), (.int .i64 1), (.int .i64 7), (.int .i64 0), (.int .i64 25), (.int .i64 2), (.int .i64 0), (.int .i64 4), (.int .i64 0), (.int .i64 0), (.int .i64 1), (.float .f64 4), (.int .i64 0), (.int .i64 1), (.int .i64 7), (.int .i64 0), (.int .i64 25), (.int .i64 2), (.int .i64 0), (.int .i64 4), (.int .i64 1), (.int .i64 0), (.int .i64 3), (.int .i64 0), (.int .i64 0), (.int .i64 1), (.float .f64 5), (.int .i64 0), (.int .i64 36), (.int .i64 0), (.int .i64 0), (.int .i64 27), (.int .i64 2), (.int .i64 0), (.int .i64 3), (.int .i64 0), (.int .i64 0), (.int .i64 1), (.float .f64 5), (.int .i64 0), (.int .i64 26), (.int .i64 2), (.int .i64 0), (.int .i64 35), (.int .i64 0), (.int .i64 0), (.int .i64 3), (.int .i64 1), (.int .i64 0), (.int .i64 1), (.float .f64 5), (.int .i64 0), (.int .i64 26), (.int .i64 2), (.int .i64 0), (.int .i64 35), (.int .i64 0), (.int .i64 0), (.int .i64 3), (.int .i64 0), (.int .i64 0), (.int .i64 1), (.float .f64 8), (.int .i64 0), (.int .i64 26), (.int .i64 2), (.int .i64 0), (.int .i64 35), (.int .i64 0), (.int .i64 0), (.int .i64 1), (.int .i64 0), (.int .i64 0), (.int .i64 4), (.int .i64 0), (.int .i64 0), (.int .i64 3), (.int .i64 1), (.int .i64 0), (.int .i64 28), (.int .i64 2), (.int .i64 0), (.int .i64 21), (.int .i64 0), (.int .i64 0)].toArray 26 (0, 0))),
  (6, (.cells [(.slice none 0 0), (.int .i64 0), (.int .i64 2), (.slice (some ⟨5, 0, none⟩) 29 3)].toArray 30 (0, 0))),
  (7, (.cells [(.slice (some ⟨4, 0, none⟩) 1 3), (.slice (some ⟨6, 0, none⟩) 1 4)].toArray 34 (0, 0))),
  (475, (.cells [(.bool true), (.bool true), (.bool true), (.bool true), (.bool true), (.bool true), (.bool true), (.bool true), (.bool true), (.bool true), (.bool true), (.bool true), (.bool true), (.bool true), (.bool true), (.bool true), (.bool true), (.bool true), (.bool true), (.bool true), (.bool true), (.bool true), (.bool true), (.bool true), (.bool true), (.bool true), (.bool true), (.bool true), (.bool true)].toArray 4 (0, 0))),
  (476, (.cells [(.slice (some ⟨482, 0, none⟩) 2 1), (.slice none 0 0), (.slice (some ⟨513, 0, none⟩) 2 1), (.slice (some ⟨515, 0, none⟩) 1 1), (.slice (some ⟨547, 0, none⟩) 2 1), (.slice (some ⟨549, 0, none⟩) 2 1), (.slice (some ⟨583, 0, none⟩) 2 1), (.slice (some ⟨585, 0, none⟩) 1 1), (.slice (some ⟨618, 0, none⟩) 2 1), (.slice (some ⟨619, 0, none⟩) 0 0), (.slice (some ⟨650, 0, none⟩) 2 1), (.slice (some ⟨652, 0, none⟩) 1 1), (.slice (some ⟨684, 0, none⟩) 2 1), (.slice (some ⟨686, 0, none⟩) 2 1), (.slice (some ⟨720, 0, none⟩) 2 1), (.slice (some ⟨722, 0, none⟩) 1 1), (.slice (some ⟨755, 0, none⟩) 2 1), (.slice (some ⟨756, 0, none⟩) 0 0), (.slice (some ⟨787, 0, none⟩) 2 1), (.slice (some ⟨789, 0, none⟩) 1 1), (.slice (some ⟨821, 0, none⟩) 2 1), (.slice (some ⟨823, 0, none⟩) 2 1), (.slice (some ⟨855, 0, none⟩) 2 1), (.slice (some ⟨857, 0, none⟩) 3 1), (.slice (some ⟨890, 0, none⟩) 2 1), (.slice (some ⟨891, 0, none⟩) 0 0), (.slice (some ⟨922, 0, none⟩) 2 1), (.slice (some ⟨924, 0, none⟩) 1 1), (.slice (some ⟨956, 0, none⟩) 2 1), (.slice (some ⟨958, 0, none⟩) 2 1), (.slice (some ⟨992, 0, none⟩) 2 1), (.slice (some ⟨994, 0, none⟩) 1 1), (.slice (some ⟨1027, 0, none⟩) 2 1), (.slice (some ⟨1028, 0, none⟩) 0 0), (.slice (some ⟨1059, 0, none⟩) 2 1), (.slice (some ⟨1061, 0, none⟩) 1 1), (.slice (some ⟨1093, 0, none⟩) 2 1), (.slice (some ⟨1095, 0, none⟩) 2 1), (.slice (some ⟨1129, 0, none⟩) 2 1), (.slice (some ⟨1131, 0, none⟩) 1 1), (.slice (some ⟨1164, 0, none⟩) 2 1), (.slice (some ⟨1165, 0, none⟩) 0 0), (.slice (some ⟨1196, 0, none⟩) 2 1), (.slice (some ⟨1198, 0, none⟩) 1 1), (.slice (some ⟨1230, 0, none⟩) 2 1), (.slice (some ⟨1232, 0, none⟩) 2 1), (.slice (some ⟨1266, 0, none⟩) 2 1), (.slice (some ⟨1268, 0, none⟩) 1 1), (.slice (some ⟨1301, 0, none⟩) 2 1), (.slice (some ⟨1302, 0, none⟩) 0 0), (.slice (some ⟨1333, 0, none⟩) 2 1), (.slice (some ⟨1335, 0, none⟩) 1 1), (.slice (some ⟨1368, 0, none⟩) 2 1), (.slice (some ⟨1369, 0, none⟩) 0 0), (.slice (some ⟨1400, 0, none⟩) 2 1), (.slice (some ⟨1402, 0, none⟩) 1 1), (.slice (some ⟨1436, 0, none⟩) 2 1), (.slice (some ⟨1438, 0, none⟩) 1 1)].toArray 162 (0, 0))),
  (482, (.cells [(.int .i64 (-1)), (.int .i64 (-1))].toArray 3 (0, 0))),
  (513, (.cells [(.int .i64 (-1)), (.int .i64 (-1))].toArray 3 (0, 0))),
  (515, (.cells [(.int .i64 0)].toArray 3 (0, 0))),
  (547, (.cells [(.int .i64 (-1)), (.int .i64 (-1))].toArray 3 (0, 0))),
  (549, (.cells [(.int .i64 0), (.int .i64 0)].toArray 3 (0, 0))),
  (583, (.cells [(.int .i64 (-1)), (.int .i64 (-1))].toArray 3 (0, 0))),
  (585, (.cells [(.int .i64 2)].toArray 3 (0, 0))),
  (618, (.cells [(.int .i64 2), (.int .i64 (-1))].toArray 3 (0, 0))),
  (619, (.cells [].toArray 3 (0, 0))),
  (650, (.cells [(.int .i64 2), (.int .i64 (-1))].toArray 3 (0, 0))),
  (652, (.cells [(.int .i64 0)].toArray 3 (0, 0))),
  (684, (.cells [(.int .i64 2), (.int .i64 (-1))].toArray 3 (0, 0))),
  (686, (.cells [(.int .i64 0), (.int .i64 0)].toArray 3 (0, 0))),
  (720, (.cells [(.int .i64 2), (.int .i64 (-1))].toArray 3 (0, 0))),
  (722, (.cells [(.int .i64 2)].toArray 3 (0, 0))),
  (755, (.cells [(.int .i64 2), (.int .i64 2)].toArray 3 (0, 0))),
  (756, (.cells [].toArray 3 (0, 0))),
  (787, (.cells [(.int .i64 2), (.int .i64 2)].toArray 3 (0, 0))),
  (789, (.cells [(.int .i64 2)].toArray 3 (0, 0))),
  (821, (.cells [(.int .i64 2), (.int .i64 2)].toArray 3 (0, 0))),
  (823, (.cells [(.int .i64 2), (.int .i64 0)].toArray 3 (0, 0))),
  (855, (.cells [(.int .i64 2), (.int .i64 2)].toArray 3 (0, 0))),
  (857, (.cells [(.int .i64 2), (.int .i64 0), (.int .i64 0)].toArray 3 (0, 0))),
  (890, (.cells [(.int .i64 2), (.int .i64 2)].toArray 3 (0, 0))),
  (891, (.cells [].toArray 3 (0, 0))),
  (922, (.cells [(.int .i64 2), (.int .i64 2)].toArray 3 (0, 0))),
  (924, (.cells [(.int .i64 2)].toArray 3 (0, 0))),
  (956, (.cells [(.int .i64 2), (.int .i64 2)].toArray 3 (0, 0))),
  (958, (.cells [(.int .i64 2), (.int .i64 0)].toArray 3 (0, 0))),
  (992, (.cells [(.int .i64 2), (.int .i64 2)].toArray 3 (0, 0))),
  (994, (.cells [(.int .i64 0)].toArray 3 (0, 0))),
  (1027, (.cells [(.int .i64 2), (.int .i64 2)].toArray 3 (0, 0))),
  (1028, (.cells [].toArray 3 (0, 0))),
  (1059, (.cells [(.int .i64 2), (.int .i64 2)].toArray 3 (0, 0))),
  (1061, (.cells [(.int .i64 2)].toArray 3 (0, 0))),
  (1093, (.cells [(.int .i64 2), (.int .i64 2)].toArray 3 (0, 0))),
  (1095, (.cells [(.int .i64 2), (.int .i64 0)].toArray 3 (0, 0))),
  (1129, (.cells [(.int .i64 2), (.int .i64 2)].toArray 3 (0, 0))),
  (1131, (.cells [(.int .i64 0)].toArray 3 (0, 0))),
  (1164, (.cells [(.int .i64 2), (.int .i64 2)].toArray 3 (0, 0))),
  (1165, (.cells [].toArray 3 (0, 0))),
  (1196, (.cells [(.int .i64 2), (.int .i64 2)].toArray 3 (0, 0))),
  (1198, (.cells [(.int .i64 2)].toArray 3 (0, 0))),
  (1230, (.cells [(.int .i64 2), (.int .i64 2)].toArray 3 (0, 0))),
  (1232, (.cells [(.int .i64 2), (.int .i64 0)].toArray 3 (0, 0))),
  (1266, (.cells [(.int .i64 2), (.int .i64 2)].toArray 3 (0, 0))),
  (1268, (.cells [(.int .i64 0)].toArray 3 (0, 0))),
  (1301, (.cells [(.int .i64 2), (.int .i64 2)].toArray 3 (0, 0))),
  (1302, (.cells [].toArray 3 (0, 0))),
  (1333, (.cells [(.int .i64 2), (.int .i64 2)].toArray 3 (0, 0))),
  (1335, (.cells [(.int .i64 0)].toArray 3 (0, 0))),
  (1368, (.cells [(.int .i64 0), (.int .i64 2)].toArray 3 (0, 0))),
  (1369, (.cells [].toArray 3 (0, 0))),
  (1400, (.cells [(.int .i64 0), (.int .i64 2)].toArray 3 (0, 0))),
  (1402, (.cells [(.int .i64 2)].toArray 3 (0, 0))),
  (1436, (.cells [(.int .i64 0), (.int .i64 2)].toArray 3 (0, 0))),
  (1438, (.cells [(.int .i64 0)].toArray 3 (0, 0))),
  (2147, (.cells [(.slice (some ⟨475, 0, none⟩) 29 1), (.slice (some ⟨476, 0, none⟩) 29 2), (.int .i64 3)].toArray 85 (0, 0)))]
noncomputable def oS1 : S := ⟨hpOf oS1L .l, 2148, 1, 4, 1⟩
noncomputable def oL : List Value := [(.agg #[(.slice (some ⟨4, 0, none⟩) 1 3), (.slice (some ⟨6, 0, none⟩) 1 4)])]
noncomputable def oV : Value := (.tuple ⟨[(.slice (some ⟨2147, 0, none⟩) 1 3), .nilIface]⟩)
theorem lit14 : chkLit oS0 oV oS1 (@evF orcO Tryz.prog hookO (LX 100000 12 13 4) 300 14 oL oS0) = true := by kernel_rfl
end Go.Proofs.YtkaladiliikheaaGreatDoor.plain
