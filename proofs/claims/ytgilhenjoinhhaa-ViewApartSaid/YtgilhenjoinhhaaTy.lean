/- What the tables say of the types and functions, as instances for the rules (printed by a program of mine). -/
import Derived.Test.YtgilhenjoinhhaaProg
import Derived.Test.YtgilhenjoinhhaaSlX
import Derived.KernelRfl
namespace Go.Sl
open Go.Proofs

theorem sz1 : (Try.prog.info? 1).map (·.size) = some 1 := by kernel_rfl
instance : Siz Try.prog 1 1 := .mk' sz1
instance : Und Try.prog 1 (.func #[] #[] false) := ⟨Try.underlying1⟩
instance : Scal Try.prog 1 := .mk' Try.underlying1 rfl sz1
instance : Byt Try.prog 1 8 := .mk' (by kernel_rfl)
instance : Zer Try.prog 1 (Value.nilFunc) ([Value.nilFunc]) := .mk' (by kernel_rfl) rfl
theorem sz2 : (Try.prog.info? 2).map (·.size) = some 1 := by kernel_rfl
instance : Siz Try.prog 2 1 := .mk' sz2
instance : Und Try.prog 2 (.int .i64) := ⟨Try.underlying2⟩
instance : Scal Try.prog 2 := .mk' Try.underlying2 rfl sz2
instance : Byt Try.prog 2 8 := .mk' (by kernel_rfl)
instance : Zer Try.prog 2 (Value.int .i64 0) ([Value.int .i64 0]) := .mk' (by kernel_rfl) rfl
theorem sz3 : (Try.prog.info? 3).map (·.size) = some 1 := by kernel_rfl
instance : Siz Try.prog 3 1 := .mk' sz3
instance : Und Try.prog 3 (.int .i64) := ⟨Try.underlying3⟩
instance : Scal Try.prog 3 := .mk' Try.underlying3 rfl sz3
instance : Byt Try.prog 3 8 := .mk' (by kernel_rfl)
instance : Zer Try.prog 3 (Value.int .i64 0) ([Value.int .i64 0]) := .mk' (by kernel_rfl) rfl
theorem sz4 : (Try.prog.info? 4).map (·.size) = some 1 := by kernel_rfl
instance : Siz Try.prog 4 1 := .mk' sz4
instance : Und Try.prog 4 (.bool) := ⟨Try.underlying4⟩
instance : Scal Try.prog 4 := .mk' Try.underlying4 rfl sz4
instance : Byt Try.prog 4 1 := .mk' (by kernel_rfl)
instance : Zer Try.prog 4 (Value.bool false) ([Value.bool false]) := .mk' (by kernel_rfl) rfl
theorem sz5 : (Try.prog.info? 5).map (·.size) = some 1 := by kernel_rfl
instance : Siz Try.prog 5 1 := .mk' sz5
instance : Und Try.prog 5 (.int .u8) := ⟨Try.underlying5⟩
instance : Scal Try.prog 5 := .mk' Try.underlying5 rfl sz5
instance : Byt Try.prog 5 1 := .mk' (by kernel_rfl)
instance : Zer Try.prog 5 (Value.int .u8 0) ([Value.int .u8 0]) := .mk' (by kernel_rfl) rfl
theorem sz6 : (Try.prog.info? 6).map (·.size) = some 1 := by kernel_rfl
instance : Siz Try.prog 6 1 := .mk' sz6
instance : Und Try.prog 6 (.int .u8) := ⟨Try.underlying6⟩
instance : Scal Try.prog 6 := .mk' Try.underlying6 rfl sz6
instance : Byt Try.prog 6 1 := .mk' (by kernel_rfl)
instance : Zer Try.prog 6 (Value.int .u8 0) ([Value.int .u8 0]) := .mk' (by kernel_rfl) rfl
theorem sz7 : (Try.prog.info? 7).map (·.size) = some 4 := by kernel_rfl
instance : Siz Try.prog 7 4 := .mk' sz7
instance : Und Try.prog 7 (.struct #[⟨ "x", 2, 0, false, "", "runtime", 0⟩, ⟨ "y", 3, 1, false, "", "runtime", 8⟩, ⟨ "signed", 4, 2, false, "", "runtime", 16⟩, ⟨ "code", 6, 3, false, "", "runtime", 17⟩]) := ⟨Try.underlying7⟩
instance : Aggr Try.prog 7 4 := .mk' Try.underlying7 rfl sz7
instance : Byt Try.prog 7 24 := .mk' (by kernel_rfl)
instance : Zer Try.prog 7 (.agg ([Value.int .i64 0, Value.int .i64 0, Value.bool false, Value.int .u8 0]).toArray) ([Value.int .i64 0, Value.int .i64 0, Value.bool false, Value.int .u8 0]) := .mk' (by kernel_rfl) rfl
instance : Pls Try.prog 7 [(0, 1), (1, 1), (2, 1), (3, 1)] := ⟨⟨_, Try.underlying7, fun w => by kernel_rfl⟩⟩
instance : FOff Try.prog 7 0 0 := .mk' (m := 0) (t := 2) Try.underlying7 rfl (by kernel_rfl)
instance : FOff Try.prog 7 1 1 := .mk' (m := 0) (t := 3) Try.underlying7 rfl (by kernel_rfl)
instance : FOff Try.prog 7 2 2 := .mk' (m := 0) (t := 4) Try.underlying7 rfl (by kernel_rfl)
instance : FOff Try.prog 7 3 3 := .mk' (m := 0) (t := 6) Try.underlying7 rfl (by kernel_rfl)
theorem sz8 : (Try.prog.info? 8).map (·.size) = some 4 := by kernel_rfl
instance : Siz Try.prog 8 4 := .mk' sz8
instance : Und Try.prog 8 (.struct #[⟨ "x", 2, 0, false, "", "runtime", 0⟩, ⟨ "y", 3, 1, false, "", "runtime", 8⟩, ⟨ "signed", 4, 2, false, "", "runtime", 16⟩, ⟨ "code", 6, 3, false, "", "runtime", 17⟩]) := ⟨Try.underlying8⟩
instance : Aggr Try.prog 8 4 := .mk' Try.underlying8 rfl sz8
instance : Byt Try.prog 8 24 := .mk' (by kernel_rfl)
instance : Zer Try.prog 8 (.agg ([Value.int .i64 0, Value.int .i64 0, Value.bool false, Value.int .u8 0]).toArray) ([Value.int .i64 0, Value.int .i64 0, Value.bool false, Value.int .u8 0]) := .mk' (by kernel_rfl) rfl
instance : Pls Try.prog 8 [(0, 1), (1, 1), (2, 1), (3, 1)] := ⟨⟨_, Try.underlying8, fun w => by kernel_rfl⟩⟩
instance : FOff Try.prog 8 0 0 := .mk' (m := 0) (t := 2) Try.underlying8 rfl (by kernel_rfl)
instance : FOff Try.prog 8 1 1 := .mk' (m := 0) (t := 3) Try.underlying8 rfl (by kernel_rfl)
instance : FOff Try.prog 8 2 2 := .mk' (m := 0) (t := 4) Try.underlying8 rfl (by kernel_rfl)
instance : FOff Try.prog 8 3 3 := .mk' (m := 0) (t := 6) Try.underlying8 rfl (by kernel_rfl)
theorem sz9 : (Try.prog.info? 9).map (·.size) = some 1 := by kernel_rfl
instance : Siz Try.prog 9 1 := .mk' sz9
instance : Und Try.prog 9 (.string) := ⟨Try.underlying9⟩
instance : Scal Try.prog 9 := .mk' Try.underlying9 rfl sz9
instance : Byt Try.prog 9 16 := .mk' (by kernel_rfl)
instance : Zer Try.prog 9 (Value.string ⟨⟨[]⟩⟩) ([Value.string ⟨⟨[]⟩⟩]) := .mk' (by kernel_rfl) rfl
theorem sz10 : (Try.prog.info? 10).map (·.size) = some 1 := by kernel_rfl
instance : Siz Try.prog 10 1 := .mk' sz10
instance : Und Try.prog 10 (.string) := ⟨Try.underlying10⟩
instance : Scal Try.prog 10 := .mk' Try.underlying10 rfl sz10
instance : Byt Try.prog 10 16 := .mk' (by kernel_rfl)
instance : Zer Try.prog 10 (Value.string ⟨⟨[]⟩⟩) ([Value.string ⟨⟨[]⟩⟩]) := .mk' (by kernel_rfl) rfl
theorem sz11 : (Try.prog.info? 11).map (·.size) = some 1 := by kernel_rfl
instance : Siz Try.prog 11 1 := .mk' sz11
instance : Und Try.prog 11 (.string) := ⟨Try.underlying11⟩
instance : Scal Try.prog 11 := .mk' Try.underlying11 rfl sz11
instance : Byt Try.prog 11 16 := .mk' (by kernel_rfl)
instance : Zer Try.prog 11 (Value.string ⟨⟨[]⟩⟩) ([Value.string ⟨⟨[]⟩⟩]) := .mk' (by kernel_rfl) rfl
theorem sz12 : (Try.prog.info? 12).map (·.size) = some 1 := by kernel_rfl
instance : Siz Try.prog 12 1 := .mk' sz12
instance : Und Try.prog 12 (.int .u64) := ⟨Try.underlying12⟩
instance : Scal Try.prog 12 := .mk' Try.underlying12 rfl sz12
instance : Byt Try.prog 12 8 := .mk' (by kernel_rfl)
instance : Zer Try.prog 12 (Value.int .u64 0) ([Value.int .u64 0]) := .mk' (by kernel_rfl) rfl
theorem sz13 : (Try.prog.info? 13).map (·.size) = some 2 := by kernel_rfl
instance : Siz Try.prog 13 2 := .mk' sz13
instance : Und Try.prog 13 (.struct #[⟨ "msg", 9, 0, false, "", "runtime", 0⟩, ⟨ "addr", 12, 1, false, "", "runtime", 16⟩]) := ⟨Try.underlying13⟩
instance : Aggr Try.prog 13 2 := .mk' Try.underlying13 rfl sz13
instance : Byt Try.prog 13 24 := .mk' (by kernel_rfl)
instance : Zer Try.prog 13 (.agg ([Value.string ⟨⟨[]⟩⟩, Value.int .u64 0]).toArray) ([Value.string ⟨⟨[]⟩⟩, Value.int .u64 0]) := .mk' (by kernel_rfl) rfl
instance : Pls Try.prog 13 [(0, 1), (1, 1)] := ⟨⟨_, Try.underlying13, fun w => by kernel_rfl⟩⟩
instance : FOff Try.prog 13 0 0 := .mk' (m := 0) (t := 9) Try.underlying13 rfl (by kernel_rfl)
instance : FOff Try.prog 13 1 1 := .mk' (m := 0) (t := 12) Try.underlying13 rfl (by kernel_rfl)
theorem sz14 : (Try.prog.info? 14).map (·.size) = some 2 := by kernel_rfl
instance : Siz Try.prog 14 2 := .mk' sz14
instance : Und Try.prog 14 (.struct #[⟨ "msg", 9, 0, false, "", "runtime", 0⟩, ⟨ "addr", 12, 1, false, "", "runtime", 16⟩]) := ⟨Try.underlying14⟩
instance : Aggr Try.prog 14 2 := .mk' Try.underlying14 rfl sz14
instance : Byt Try.prog 14 24 := .mk' (by kernel_rfl)
instance : Zer Try.prog 14 (.agg ([Value.string ⟨⟨[]⟩⟩, Value.int .u64 0]).toArray) ([Value.string ⟨⟨[]⟩⟩, Value.int .u64 0]) := .mk' (by kernel_rfl) rfl
instance : Pls Try.prog 14 [(0, 1), (1, 1)] := ⟨⟨_, Try.underlying14, fun w => by kernel_rfl⟩⟩
instance : FOff Try.prog 14 0 0 := .mk' (m := 0) (t := 9) Try.underlying14 rfl (by kernel_rfl)
instance : FOff Try.prog 14 1 1 := .mk' (m := 0) (t := 12) Try.underlying14 rfl (by kernel_rfl)
theorem sz15 : (Try.prog.info? 15).map (·.size) = some 1 := by kernel_rfl
instance : Siz Try.prog 15 1 := .mk' sz15
instance : Und Try.prog 15 (.pointer 78) := ⟨Try.underlying15⟩
instance : Scal Try.prog 15 := .mk' Try.underlying15 rfl sz15
instance : Byt Try.prog 15 8 := .mk' (by kernel_rfl)
instance : Zer Try.prog 15 (Value.pointer none) ([Value.pointer none]) := .mk' (by kernel_rfl) rfl
theorem sz16 : (Try.prog.info? 16).map (·.size) = some 1 := by kernel_rfl
instance : Siz Try.prog 16 1 := .mk' sz16
instance : Und Try.prog 16 (.pointer 81) := ⟨Try.underlying16⟩
instance : Scal Try.prog 16 := .mk' Try.underlying16 rfl sz16
instance : Byt Try.prog 16 8 := .mk' (by kernel_rfl)
instance : Zer Try.prog 16 (Value.pointer none) ([Value.pointer none]) := .mk' (by kernel_rfl) rfl
theorem sz17 : (Try.prog.info? 17).map (·.size) = some 1 := by kernel_rfl
instance : Siz Try.prog 17 1 := .mk' sz17
instance : Und Try.prog 17 (.pointer 91) := ⟨Try.underlying17⟩
instance : Scal Try.prog 17 := .mk' Try.underlying17 rfl sz17
instance : Byt Try.prog 17 8 := .mk' (by kernel_rfl)
instance : Zer Try.prog 17 (Value.pointer none) ([Value.pointer none]) := .mk' (by kernel_rfl) rfl
theorem sz18 : (Try.prog.info? 18).map (·.size) = some 1 := by kernel_rfl
instance : Siz Try.prog 18 1 := .mk' sz18
instance : Und Try.prog 18 (.struct #[⟨ "typ", 17, 0, false, "", "internal/runtime/maps", 0⟩]) := ⟨Try.underlying18⟩
instance : Aggr Try.prog 18 1 := .mk' Try.underlying18 rfl sz18
instance : Byt Try.prog 18 8 := .mk' (by kernel_rfl)
instance : Zer Try.prog 18 (.agg ([Value.pointer none]).toArray) ([Value.pointer none]) := .mk' (by kernel_rfl) rfl
instance : Pls Try.prog 18 [(0, 1)] := ⟨⟨_, Try.underlying18, fun w => by kernel_rfl⟩⟩
instance : FOff Try.prog 18 0 0 := .mk' (m := 0) (t := 17) Try.underlying18 rfl (by kernel_rfl)
theorem sz19 : (Try.prog.info? 19).map (·.size) = some 1 := by kernel_rfl
instance : Siz Try.prog 19 1 := .mk' sz19
instance : Und Try.prog 19 (.struct #[⟨ "typ", 17, 0, false, "", "internal/runtime/maps", 0⟩]) := ⟨Try.underlying19⟩
instance : Aggr Try.prog 19 1 := .mk' Try.underlying19 rfl sz19
instance : Byt Try.prog 19 8 := .mk' (by kernel_rfl)
instance : Zer Try.prog 19 (.agg ([Value.pointer none]).toArray) ([Value.pointer none]) := .mk' (by kernel_rfl) rfl
instance : Pls Try.prog 19 [(0, 1)] := ⟨⟨_, Try.underlying19, fun w => by kernel_rfl⟩⟩
instance : FOff Try.prog 19 0 0 := .mk' (m := 0) (t := 17) Try.underlying19 rfl (by kernel_rfl)
theorem sz20 : (Try.prog.info? 20).map (·.size) = some 1 := by kernel_rfl
instance : Siz Try.prog 20 1 := .mk' sz20
instance : Scal Try.prog 20 := .mk' Try.underlying20 rfl sz20
instance : Byt Try.prog 20 16 := .mk' (by kernel_rfl)
instance : Zer Try.prog 20 (Value.nilIface) ([Value.nilIface]) := .mk' (by kernel_rfl) rfl
theorem sz21 : (Try.prog.info? 21).map (·.size) = some 1 := by kernel_rfl
instance : Siz Try.prog 21 1 := .mk' sz21
instance : Und Try.prog 21 (.int .i32) := ⟨Try.underlying21⟩
instance : Scal Try.prog 21 := .mk' Try.underlying21 rfl sz21
instance : Byt Try.prog 21 4 := .mk' (by kernel_rfl)
instance : Zer Try.prog 21 (Value.int .i32 0) ([Value.int .i32 0]) := .mk' (by kernel_rfl) rfl
theorem sz22 : (Try.prog.info? 22).map (·.size) = some 1 := by kernel_rfl
instance : Siz Try.prog 22 1 := .mk' sz22
instance : Und Try.prog 22 (.slice 34) := ⟨Try.underlying22⟩
instance : Scal Try.prog 22 := .mk' Try.underlying22 rfl sz22
instance : Byt Try.prog 22 24 := .mk' (by kernel_rfl)
instance : Zer Try.prog 22 (Value.slice none 0 0) ([Value.slice none 0 0]) := .mk' (by kernel_rfl) rfl
theorem sz23 : (Try.prog.info? 23).map (·.size) = some 1 := by kernel_rfl
instance : Siz Try.prog 23 1 := .mk' sz23
instance : Und Try.prog 23 (.pointer 31) := ⟨Try.underlying23⟩
instance : Scal Try.prog 23 := .mk' Try.underlying23 rfl sz23
instance : Byt Try.prog 23 8 := .mk' (by kernel_rfl)
instance : Zer Try.prog 23 (Value.pointer none) ([Value.pointer none]) := .mk' (by kernel_rfl) rfl
theorem sz24 : (Try.prog.info? 24).map (·.size) = some 1 := by kernel_rfl
instance : Siz Try.prog 24 1 := .mk' sz24
instance : Und Try.prog 24 (.pointer 55) := ⟨Try.underlying24⟩
instance : Scal Try.prog 24 := .mk' Try.underlying24 rfl sz24
instance : Byt Try.prog 24 8 := .mk' (by kernel_rfl)
instance : Zer Try.prog 24 (Value.pointer none) ([Value.pointer none]) := .mk' (by kernel_rfl) rfl
theorem sz25 : (Try.prog.info? 25).map (·.size) = some 1 := by kernel_rfl
instance : Siz Try.prog 25 1 := .mk' sz25
instance : Und Try.prog 25 (.func #[] #[24] false) := ⟨Try.underlying25⟩
instance : Scal Try.prog 25 := .mk' Try.underlying25 rfl sz25
instance : Byt Try.prog 25 8 := .mk' (by kernel_rfl)
instance : Zer Try.prog 25 (Value.nilFunc) ([Value.nilFunc]) := .mk' (by kernel_rfl) rfl
theorem sz26 : (Try.prog.info? 26).map (·.size) = some 1 := by kernel_rfl
instance : Siz Try.prog 26 1 := .mk' sz26
instance : Und Try.prog 26 (.slice 24) := ⟨Try.underlying26⟩
instance : Scal Try.prog 26 := .mk' Try.underlying26 rfl sz26
instance : Byt Try.prog 26 24 := .mk' (by kernel_rfl)
instance : Zer Try.prog 26 (Value.slice none 0 0) ([Value.slice none 0 0]) := .mk' (by kernel_rfl) rfl
theorem sz27 : (Try.prog.info? 27).map (·.size) = some 1 := by kernel_rfl
instance : Siz Try.prog 27 1 := .mk' sz27
instance : Und Try.prog 27 (.pointer 46) := ⟨Try.underlying27⟩
instance : Scal Try.prog 27 := .mk' Try.underlying27 rfl sz27
instance : Byt Try.prog 27 8 := .mk' (by kernel_rfl)
instance : Zer Try.prog 27 (Value.pointer none) ([Value.pointer none]) := .mk' (by kernel_rfl) rfl
theorem sz28 : (Try.prog.info? 28).map (·.size) = some 1 := by kernel_rfl
instance : Siz Try.prog 28 1 := .mk' sz28
instance : Und Try.prog 28 (.func #[] #[27] false) := ⟨Try.underlying28⟩
instance : Scal Try.prog 28 := .mk' Try.underlying28 rfl sz28
instance : Byt Try.prog 28 8 := .mk' (by kernel_rfl)
instance : Zer Try.prog 28 (Value.nilFunc) ([Value.nilFunc]) := .mk' (by kernel_rfl) rfl
theorem sz29 : (Try.prog.info? 29).map (·.size) = some 1 := by kernel_rfl
instance : Siz Try.prog 29 1 := .mk' sz29
instance : Und Try.prog 29 (.slice 27) := ⟨Try.underlying29⟩
instance : Scal Try.prog 29 := .mk' Try.underlying29 rfl sz29
instance : Byt Try.prog 29 24 := .mk' (by kernel_rfl)
instance : Zer Try.prog 29 (Value.slice none 0 0) ([Value.slice none 0 0]) := .mk' (by kernel_rfl) rfl
theorem sz30 : (Try.prog.info? 30).map (·.size) = some 2 := by kernel_rfl
instance : Siz Try.prog 30 2 := .mk' sz30
instance : Und Try.prog 30 (.struct #[⟨ "l", 26, 0, false, "", "ciborium/ciboriumlaw17", 0⟩, ⟨ "m", 29, 1, false, "", "ciborium/ciboriumlaw17", 24⟩]) := ⟨Try.underlying30⟩
instance : Aggr Try.prog 30 2 := .mk' Try.underlying30 rfl sz30
instance : Byt Try.prog 30 48 := .mk' (by kernel_rfl)
instance : Zer Try.prog 30 (.agg ([Value.slice none 0 0, Value.slice none 0 0]).toArray) ([Value.slice none 0 0, Value.slice none 0 0]) := .mk' (by kernel_rfl) rfl
instance : Pls Try.prog 30 [(0, 1), (1, 1)] := ⟨⟨_, Try.underlying30, fun w => by kernel_rfl⟩⟩
instance : FOff Try.prog 30 0 0 := .mk' (m := 0) (t := 26) Try.underlying30 rfl (by kernel_rfl)
instance : FOff Try.prog 30 1 1 := .mk' (m := 0) (t := 29) Try.underlying30 rfl (by kernel_rfl)
theorem sz31 : (Try.prog.info? 31).map (·.size) = some 2 := by kernel_rfl
instance : Siz Try.prog 31 2 := .mk' sz31
instance : Und Try.prog 31 (.struct #[⟨ "l", 26, 0, false, "", "ciborium/ciboriumlaw17", 0⟩, ⟨ "m", 29, 1, false, "", "ciborium/ciboriumlaw17", 24⟩]) := ⟨Try.underlying31⟩
instance : Aggr Try.prog 31 2 := .mk' Try.underlying31 rfl sz31
instance : Byt Try.prog 31 48 := .mk' (by kernel_rfl)
instance : Zer Try.prog 31 (.agg ([Value.slice none 0 0, Value.slice none 0 0]).toArray) ([Value.slice none 0 0, Value.slice none 0 0]) := .mk' (by kernel_rfl) rfl
instance : Pls Try.prog 31 [(0, 1), (1, 1)] := ⟨⟨_, Try.underlying31, fun w => by kernel_rfl⟩⟩
instance : FOff Try.prog 31 0 0 := .mk' (m := 0) (t := 26) Try.underlying31 rfl (by kernel_rfl)
instance : FOff Try.prog 31 1 1 := .mk' (m := 0) (t := 29) Try.underlying31 rfl (by kernel_rfl)
theorem sz32 : (Try.prog.info? 32).map (·.size) = some 1 := by kernel_rfl
instance : Siz Try.prog 32 1 := .mk' sz32
instance : Und Try.prog 32 (.func #[34] #[4] false) := ⟨Try.underlying32⟩
instance : Scal Try.prog 32 := .mk' Try.underlying32 rfl sz32
instance : Byt Try.prog 32 8 := .mk' (by kernel_rfl)
instance : Zer Try.prog 32 (Value.nilFunc) ([Value.nilFunc]) := .mk' (by kernel_rfl) rfl
theorem sz33 : (Try.prog.info? 33).map (·.size) = some 5 := by kernel_rfl
instance : Siz Try.prog 33 5 := .mk' sz33
instance : Und Try.prog 33 (.struct #[⟨ "Do", 3, 0, false, "", "", 0⟩, ⟨ "At", 3, 1, false, "", "", 8⟩, ⟨ "N", 3, 2, false, "", "", 16⟩, ⟨ "Key", 9, 3, false, "", "", 24⟩, ⟨ "Value", 9, 4, false, "", "", 40⟩]) := ⟨Try.underlying33⟩
instance : Aggr Try.prog 33 5 := .mk' Try.underlying33 rfl sz33
instance : Byt Try.prog 33 56 := .mk' (by kernel_rfl)
instance : Zer Try.prog 33 (.agg ([Value.int .i64 0, Value.int .i64 0, Value.int .i64 0, Value.string ⟨⟨[]⟩⟩, Value.string ⟨⟨[]⟩⟩]).toArray) ([Value.int .i64 0, Value.int .i64 0, Value.int .i64 0, Value.string ⟨⟨[]⟩⟩, Value.string ⟨⟨[]⟩⟩]) := .mk' (by kernel_rfl) rfl
instance : Pls Try.prog 33 [(0, 1), (1, 1), (2, 1), (3, 1), (4, 1)] := ⟨⟨_, Try.underlying33, fun w => by kernel_rfl⟩⟩
instance : FOff Try.prog 33 0 0 := .mk' (m := 0) (t := 3) Try.underlying33 rfl (by kernel_rfl)
instance : FOff Try.prog 33 1 1 := .mk' (m := 0) (t := 3) Try.underlying33 rfl (by kernel_rfl)
instance : FOff Try.prog 33 2 2 := .mk' (m := 0) (t := 3) Try.underlying33 rfl (by kernel_rfl)
instance : FOff Try.prog 33 3 3 := .mk' (m := 0) (t := 9) Try.underlying33 rfl (by kernel_rfl)
instance : FOff Try.prog 33 4 4 := .mk' (m := 0) (t := 9) Try.underlying33 rfl (by kernel_rfl)
theorem sz34 : (Try.prog.info? 34).map (·.size) = some 5 := by kernel_rfl
instance : Siz Try.prog 34 5 := .mk' sz34
instance : Und Try.prog 34 (.struct #[⟨ "Do", 3, 0, false, "", "", 0⟩, ⟨ "At", 3, 1, false, "", "", 8⟩, ⟨ "N", 3, 2, false, "", "", 16⟩, ⟨ "Key", 9, 3, false, "", "", 24⟩, ⟨ "Value", 9, 4, false, "", "", 40⟩]) := ⟨Try.underlying34⟩
instance : Aggr Try.prog 34 5 := .mk' Try.underlying34 rfl sz34
instance : Byt Try.prog 34 56 := .mk' (by kernel_rfl)
instance : Zer Try.prog 34 (.agg ([Value.int .i64 0, Value.int .i64 0, Value.int .i64 0, Value.string ⟨⟨[]⟩⟩, Value.string ⟨⟨[]⟩⟩]).toArray) ([Value.int .i64 0, Value.int .i64 0, Value.int .i64 0, Value.string ⟨⟨[]⟩⟩, Value.string ⟨⟨[]⟩⟩]) := .mk' (by kernel_rfl) rfl
instance : Pls Try.prog 34 [(0, 1), (1, 1), (2, 1), (3, 1), (4, 1)] := ⟨⟨_, Try.underlying34, fun w => by kernel_rfl⟩⟩
instance : FOff Try.prog 34 0 0 := .mk' (m := 0) (t := 3) Try.underlying34 rfl (by kernel_rfl)
instance : FOff Try.prog 34 1 1 := .mk' (m := 0) (t := 3) Try.underlying34 rfl (by kernel_rfl)
instance : FOff Try.prog 34 2 2 := .mk' (m := 0) (t := 3) Try.underlying34 rfl (by kernel_rfl)
instance : FOff Try.prog 34 3 3 := .mk' (m := 0) (t := 9) Try.underlying34 rfl (by kernel_rfl)
instance : FOff Try.prog 34 4 4 := .mk' (m := 0) (t := 9) Try.underlying34 rfl (by kernel_rfl)
theorem sz35 : (Try.prog.info? 35).map (·.size) = some 1 := by kernel_rfl
instance : Siz Try.prog 35 1 := .mk' sz35
instance : Und Try.prog 35 (.func #[] #[4] false) := ⟨Try.underlying35⟩
instance : Scal Try.prog 35 := .mk' Try.underlying35 rfl sz35
instance : Byt Try.prog 35 8 := .mk' (by kernel_rfl)
instance : Zer Try.prog 35 (Value.nilFunc) ([Value.nilFunc]) := .mk' (by kernel_rfl) rfl
theorem sz36 : (Try.prog.info? 36).map (·.size) = some 1 := by kernel_rfl
instance : Siz Try.prog 36 1 := .mk' sz36
instance : Und Try.prog 36 (.func #[22] #[4] false) := ⟨Try.underlying36⟩
instance : Scal Try.prog 36 := .mk' Try.underlying36 rfl sz36
instance : Byt Try.prog 36 8 := .mk' (by kernel_rfl)
instance : Zer Try.prog 36 (Value.nilFunc) ([Value.nilFunc]) := .mk' (by kernel_rfl) rfl
theorem sz37 : (Try.prog.info? 37).map (·.size) = some 1 := by kernel_rfl
instance : Siz Try.prog 37 1 := .mk' sz37
instance : Und Try.prog 37 (.func #[9, 9] #[4] false) := ⟨Try.underlying37⟩
instance : Scal Try.prog 37 := .mk' Try.underlying37 rfl sz37
instance : Byt Try.prog 37 8 := .mk' (by kernel_rfl)
instance : Zer Try.prog 37 (Value.nilFunc) ([Value.nilFunc]) := .mk' (by kernel_rfl) rfl
theorem sz38 : (Try.prog.info? 38).map (·.size) = some 1 := by kernel_rfl
instance : Siz Try.prog 38 1 := .mk' sz38
instance : Und Try.prog 38 (.int .i64) := ⟨Try.underlying38⟩
instance : Scal Try.prog 38 := .mk' Try.underlying38 rfl sz38
instance : Byt Try.prog 38 8 := .mk' (by kernel_rfl)
instance : Zer Try.prog 38 (Value.int .i64 0) ([Value.int .i64 0]) := .mk' (by kernel_rfl) rfl
theorem sz40 : (Try.prog.info? 40).map (·.size) = some 1 := by kernel_rfl
instance : Siz Try.prog 40 1 := .mk' sz40
instance : Und Try.prog 40 (.func #[9] #[24, 38] false) := ⟨Try.underlying40⟩
instance : Scal Try.prog 40 := .mk' Try.underlying40 rfl sz40
instance : Byt Try.prog 40 8 := .mk' (by kernel_rfl)
instance : Zer Try.prog 40 (Value.nilFunc) ([Value.nilFunc]) := .mk' (by kernel_rfl) rfl
theorem sz41 : (Try.prog.info? 41).map (·.size) = some 1 := by kernel_rfl
instance : Siz Try.prog 41 1 := .mk' sz41
instance : Und Try.prog 41 (.pointer 44) := ⟨Try.underlying41⟩
instance : Scal Try.prog 41 := .mk' Try.underlying41 rfl sz41
instance : Byt Try.prog 41 8 := .mk' (by kernel_rfl)
instance : Zer Try.prog 41 (Value.pointer none) ([Value.pointer none]) := .mk' (by kernel_rfl) rfl
theorem sz42 : (Try.prog.info? 42).map (·.size) = some 1 := by kernel_rfl
instance : Siz Try.prog 42 1 := .mk' sz42
instance : Und Try.prog 42 (.slice 9) := ⟨Try.underlying42⟩
instance : Scal Try.prog 42 := .mk' Try.underlying42 rfl sz42
instance : Byt Try.prog 42 24 := .mk' (by kernel_rfl)
instance : Zer Try.prog 42 (Value.slice none 0 0) ([Value.slice none 0 0]) := .mk' (by kernel_rfl) rfl
theorem sz43 : (Try.prog.info? 43).map (·.size) = some 2 := by kernel_rfl
instance : Siz Try.prog 43 2 := .mk' sz43
instance : Und Try.prog 43 (.struct #[⟨ "Keys", 42, 0, false, "", "", 0⟩, ⟨ "Values", 42, 1, false, "", "", 24⟩]) := ⟨Try.underlying43⟩
instance : Aggr Try.prog 43 2 := .mk' Try.underlying43 rfl sz43
instance : Byt Try.prog 43 48 := .mk' (by kernel_rfl)
instance : Zer Try.prog 43 (.agg ([Value.slice none 0 0, Value.slice none 0 0]).toArray) ([Value.slice none 0 0, Value.slice none 0 0]) := .mk' (by kernel_rfl) rfl
instance : Pls Try.prog 43 [(0, 1), (1, 1)] := ⟨⟨_, Try.underlying43, fun w => by kernel_rfl⟩⟩
instance : FOff Try.prog 43 0 0 := .mk' (m := 0) (t := 42) Try.underlying43 rfl (by kernel_rfl)
instance : FOff Try.prog 43 1 1 := .mk' (m := 0) (t := 42) Try.underlying43 rfl (by kernel_rfl)
theorem sz44 : (Try.prog.info? 44).map (·.size) = some 2 := by kernel_rfl
instance : Siz Try.prog 44 2 := .mk' sz44
instance : Und Try.prog 44 (.struct #[⟨ "Keys", 42, 0, false, "", "", 0⟩, ⟨ "Values", 42, 1, false, "", "", 24⟩]) := ⟨Try.underlying44⟩
instance : Aggr Try.prog 44 2 := .mk' Try.underlying44 rfl sz44
instance : Byt Try.prog 44 48 := .mk' (by kernel_rfl)
instance : Zer Try.prog 44 (.agg ([Value.slice none 0 0, Value.slice none 0 0]).toArray) ([Value.slice none 0 0, Value.slice none 0 0]) := .mk' (by kernel_rfl) rfl
instance : Pls Try.prog 44 [(0, 1), (1, 1)] := ⟨⟨_, Try.underlying44, fun w => by kernel_rfl⟩⟩
instance : FOff Try.prog 44 0 0 := .mk' (m := 0) (t := 42) Try.underlying44 rfl (by kernel_rfl)
instance : FOff Try.prog 44 1 1 := .mk' (m := 0) (t := 42) Try.underlying44 rfl (by kernel_rfl)
theorem sz45 : (Try.prog.info? 45).map (·.size) = some 2 := by kernel_rfl
instance : Siz Try.prog 45 2 := .mk' sz45
instance : Und Try.prog 45 (.struct #[⟨ "B", 41, 0, false, "", "", 0⟩, ⟨ "Prefix", 9, 1, false, "", "", 8⟩]) := ⟨Try.underlying45⟩
instance : Aggr Try.prog 45 2 := .mk' Try.underlying45 rfl sz45
instance : Byt Try.prog 45 24 := .mk' (by kernel_rfl)
instance : Zer Try.prog 45 (.agg ([Value.pointer none, Value.string ⟨⟨[]⟩⟩]).toArray) ([Value.pointer none, Value.string ⟨⟨[]⟩⟩]) := .mk' (by kernel_rfl) rfl
instance : Pls Try.prog 45 [(0, 1), (1, 1)] := ⟨⟨_, Try.underlying45, fun w => by kernel_rfl⟩⟩
instance : FOff Try.prog 45 0 0 := .mk' (m := 0) (t := 41) Try.underlying45 rfl (by kernel_rfl)
instance : FOff Try.prog 45 1 1 := .mk' (m := 0) (t := 9) Try.underlying45 rfl (by kernel_rfl)
theorem sz46 : (Try.prog.info? 46).map (·.size) = some 2 := by kernel_rfl
instance : Siz Try.prog 46 2 := .mk' sz46
instance : Und Try.prog 46 (.struct #[⟨ "B", 41, 0, false, "", "", 0⟩, ⟨ "Prefix", 9, 1, false, "", "", 8⟩]) := ⟨Try.underlying46⟩
instance : Aggr Try.prog 46 2 := .mk' Try.underlying46 rfl sz46
instance : Byt Try.prog 46 24 := .mk' (by kernel_rfl)
instance : Zer Try.prog 46 (.agg ([Value.pointer none, Value.string ⟨⟨[]⟩⟩]).toArray) ([Value.pointer none, Value.string ⟨⟨[]⟩⟩]) := .mk' (by kernel_rfl) rfl
instance : Pls Try.prog 46 [(0, 1), (1, 1)] := ⟨⟨_, Try.underlying46, fun w => by kernel_rfl⟩⟩
instance : FOff Try.prog 46 0 0 := .mk' (m := 0) (t := 41) Try.underlying46 rfl (by kernel_rfl)
instance : FOff Try.prog 46 1 1 := .mk' (m := 0) (t := 9) Try.underlying46 rfl (by kernel_rfl)
theorem sz47 : (Try.prog.info? 47).map (·.size) = some 1 := by kernel_rfl
instance : Siz Try.prog 47 1 := .mk' sz47
instance : Und Try.prog 47 (.func #[9, 9, 22] #[4] false) := ⟨Try.underlying47⟩
instance : Scal Try.prog 47 := .mk' Try.underlying47 rfl sz47
instance : Byt Try.prog 47 8 := .mk' (by kernel_rfl)
instance : Zer Try.prog 47 (Value.nilFunc) ([Value.nilFunc]) := .mk' (by kernel_rfl) rfl
theorem sz48 : (Try.prog.info? 48).map (·.size) = some 1 := by kernel_rfl
instance : Siz Try.prog 48 1 := .mk' sz48
instance : Und Try.prog 48 (.pointer 51) := ⟨Try.underlying48⟩
instance : Scal Try.prog 48 := .mk' Try.underlying48 rfl sz48
instance : Byt Try.prog 48 8 := .mk' (by kernel_rfl)
instance : Zer Try.prog 48 (Value.pointer none) ([Value.pointer none]) := .mk' (by kernel_rfl) rfl
theorem sz49 : (Try.prog.info? 49).map (·.size) = some 1 := by kernel_rfl
instance : Siz Try.prog 49 1 := .mk' sz49
instance : Und Try.prog 49 (.map 9 94) := ⟨Try.underlying49⟩
instance : Scal Try.prog 49 := .mk' Try.underlying49 rfl sz49
instance : Byt Try.prog 49 8 := .mk' (by kernel_rfl)
instance : Zer Try.prog 49 (Value.map none) ([Value.map none]) := .mk' (by kernel_rfl) rfl
theorem sz50 : (Try.prog.info? 50).map (·.size) = some 1 := by kernel_rfl
instance : Siz Try.prog 50 1 := .mk' sz50
instance : Und Try.prog 50 (.struct #[⟨ "m", 49, 0, false, "", "ciborium/view", 0⟩]) := ⟨Try.underlying50⟩
instance : Aggr Try.prog 50 1 := .mk' Try.underlying50 rfl sz50
instance : Byt Try.prog 50 8 := .mk' (by kernel_rfl)
instance : Zer Try.prog 50 (.agg ([Value.map none]).toArray) ([Value.map none]) := .mk' (by kernel_rfl) rfl
instance : Pls Try.prog 50 [(0, 1)] := ⟨⟨_, Try.underlying50, fun w => by kernel_rfl⟩⟩
instance : FOff Try.prog 50 0 0 := .mk' (m := 0) (t := 49) Try.underlying50 rfl (by kernel_rfl)
theorem sz51 : (Try.prog.info? 51).map (·.size) = some 1 := by kernel_rfl
instance : Siz Try.prog 51 1 := .mk' sz51
instance : Und Try.prog 51 (.struct #[⟨ "m", 49, 0, false, "", "ciborium/view", 0⟩]) := ⟨Try.underlying51⟩
instance : Aggr Try.prog 51 1 := .mk' Try.underlying51 rfl sz51
instance : Byt Try.prog 51 8 := .mk' (by kernel_rfl)
instance : Zer Try.prog 51 (.agg ([Value.map none]).toArray) ([Value.map none]) := .mk' (by kernel_rfl) rfl
instance : Pls Try.prog 51 [(0, 1)] := ⟨⟨_, Try.underlying51, fun w => by kernel_rfl⟩⟩
instance : FOff Try.prog 51 0 0 := .mk' (m := 0) (t := 49) Try.underlying51 rfl (by kernel_rfl)
theorem sz52 : (Try.prog.info? 52).map (·.size) = some 1 := by kernel_rfl
instance : Siz Try.prog 52 1 := .mk' sz52
instance : Scal Try.prog 52 := .mk' Try.underlying52 rfl sz52
instance : Byt Try.prog 52 16 := .mk' (by kernel_rfl)
instance : Zer Try.prog 52 (Value.nilIface) ([Value.nilIface]) := .mk' (by kernel_rfl) rfl
theorem sz53 : (Try.prog.info? 53).map (·.size) = some 1 := by kernel_rfl
instance : Siz Try.prog 53 1 := .mk' sz53
instance : Scal Try.prog 53 := .mk' Try.underlying53 rfl sz53
instance : Byt Try.prog 53 16 := .mk' (by kernel_rfl)
instance : Zer Try.prog 53 (Value.nilIface) ([Value.nilIface]) := .mk' (by kernel_rfl) rfl
theorem sz54 : (Try.prog.info? 54).map (·.size) = some 2 := by kernel_rfl
instance : Siz Try.prog 54 2 := .mk' sz54
instance : Und Try.prog 54 (.struct #[⟨ "s", 53, 0, false, "", "ciborium/view", 0⟩, ⟨ "prefix", 9, 1, false, "", "ciborium/view", 16⟩]) := ⟨Try.underlying54⟩
instance : Aggr Try.prog 54 2 := .mk' Try.underlying54 rfl sz54
instance : Byt Try.prog 54 32 := .mk' (by kernel_rfl)
instance : Zer Try.prog 54 (.agg ([Value.nilIface, Value.string ⟨⟨[]⟩⟩]).toArray) ([Value.nilIface, Value.string ⟨⟨[]⟩⟩]) := .mk' (by kernel_rfl) rfl
instance : Pls Try.prog 54 [(0, 1), (1, 1)] := ⟨⟨_, Try.underlying54, fun w => by kernel_rfl⟩⟩
instance : FOff Try.prog 54 0 0 := .mk' (m := 0) (t := 53) Try.underlying54 rfl (by kernel_rfl)
instance : FOff Try.prog 54 1 1 := .mk' (m := 0) (t := 9) Try.underlying54 rfl (by kernel_rfl)
theorem sz55 : (Try.prog.info? 55).map (·.size) = some 2 := by kernel_rfl
instance : Siz Try.prog 55 2 := .mk' sz55
instance : Und Try.prog 55 (.struct #[⟨ "s", 53, 0, false, "", "ciborium/view", 0⟩, ⟨ "prefix", 9, 1, false, "", "ciborium/view", 16⟩]) := ⟨Try.underlying55⟩
instance : Aggr Try.prog 55 2 := .mk' Try.underlying55 rfl sz55
instance : Byt Try.prog 55 32 := .mk' (by kernel_rfl)
instance : Zer Try.prog 55 (.agg ([Value.nilIface, Value.string ⟨⟨[]⟩⟩]).toArray) ([Value.nilIface, Value.string ⟨⟨[]⟩⟩]) := .mk' (by kernel_rfl) rfl
instance : Pls Try.prog 55 [(0, 1), (1, 1)] := ⟨⟨_, Try.underlying55, fun w => by kernel_rfl⟩⟩
instance : FOff Try.prog 55 0 0 := .mk' (m := 0) (t := 53) Try.underlying55 rfl (by kernel_rfl)
instance : FOff Try.prog 55 1 1 := .mk' (m := 0) (t := 9) Try.underlying55 rfl (by kernel_rfl)
theorem sz57 : (Try.prog.info? 57).map (·.size) = some 1 := by kernel_rfl
instance : Siz Try.prog 57 1 := .mk' sz57
instance : Und Try.prog 57 (.func #[9] #[9, 4, 38] false) := ⟨Try.underlying57⟩
instance : Scal Try.prog 57 := .mk' Try.underlying57 rfl sz57
instance : Byt Try.prog 57 8 := .mk' (by kernel_rfl)
instance : Zer Try.prog 57 (Value.nilFunc) ([Value.nilFunc]) := .mk' (by kernel_rfl) rfl
theorem sz58 : (Try.prog.info? 58).map (·.size) = some 1 := by kernel_rfl
instance : Siz Try.prog 58 1 := .mk' sz58
instance : Und Try.prog 58 (.func #[9, 9] #[38] false) := ⟨Try.underlying58⟩
instance : Scal Try.prog 58 := .mk' Try.underlying58 rfl sz58
instance : Byt Try.prog 58 8 := .mk' (by kernel_rfl)
instance : Zer Try.prog 58 (Value.nilFunc) ([Value.nilFunc]) := .mk' (by kernel_rfl) rfl
theorem sz60 : (Try.prog.info? 60).map (·.size) = some 1 := by kernel_rfl
instance : Siz Try.prog 60 1 := .mk' sz60
instance : Und Try.prog 60 (.func #[9] #[4, 38] false) := ⟨Try.underlying60⟩
instance : Scal Try.prog 60 := .mk' Try.underlying60 rfl sz60
instance : Byt Try.prog 60 8 := .mk' (by kernel_rfl)
instance : Zer Try.prog 60 (Value.nilFunc) ([Value.nilFunc]) := .mk' (by kernel_rfl) rfl
theorem sz62 : (Try.prog.info? 62).map (·.size) = some 1 := by kernel_rfl
instance : Siz Try.prog 62 1 := .mk' sz62
instance : Und Try.prog 62 (.func #[9, 9, 3] #[42, 38] false) := ⟨Try.underlying62⟩
instance : Scal Try.prog 62 := .mk' Try.underlying62 rfl sz62
instance : Byt Try.prog 62 8 := .mk' (by kernel_rfl)
instance : Zer Try.prog 62 (Value.nilFunc) ([Value.nilFunc]) := .mk' (by kernel_rfl) rfl
theorem sz63 : (Try.prog.info? 63).map (·.size) = some 1 := by kernel_rfl
instance : Siz Try.prog 63 1 := .mk' sz63
instance : Und Try.prog 63 (.func #[42, 42] #[4] false) := ⟨Try.underlying63⟩
instance : Scal Try.prog 63 := .mk' Try.underlying63 rfl sz63
instance : Byt Try.prog 63 8 := .mk' (by kernel_rfl)
instance : Zer Try.prog 63 (Value.nilFunc) ([Value.nilFunc]) := .mk' (by kernel_rfl) rfl
theorem sz65 : (Try.prog.info? 65).map (·.size) = some 1 := by kernel_rfl
instance : Siz Try.prog 65 1 := .mk' sz65
instance : Und Try.prog 65 (.func #[9] #[3, 38] false) := ⟨Try.underlying65⟩
instance : Scal Try.prog 65 := .mk' Try.underlying65 rfl sz65
instance : Byt Try.prog 65 8 := .mk' (by kernel_rfl)
instance : Zer Try.prog 65 (Value.nilFunc) ([Value.nilFunc]) := .mk' (by kernel_rfl) rfl
theorem sz66 : (Try.prog.info? 66).map (·.size) = some 1 := by kernel_rfl
instance : Siz Try.prog 66 1 := .mk' sz66
instance : Und Try.prog 66 (.func #[9] #[3] false) := ⟨Try.underlying66⟩
instance : Scal Try.prog 66 := .mk' Try.underlying66 rfl sz66
instance : Byt Try.prog 66 8 := .mk' (by kernel_rfl)
instance : Zer Try.prog 66 (Value.nilFunc) ([Value.nilFunc]) := .mk' (by kernel_rfl) rfl
theorem sz68 : (Try.prog.info? 68).map (·.size) = some 1 := by kernel_rfl
instance : Siz Try.prog 68 1 := .mk' sz68
instance : Und Try.prog 68 (.func #[9] #[27, 38] false) := ⟨Try.underlying68⟩
instance : Scal Try.prog 68 := .mk' Try.underlying68 rfl sz68
instance : Byt Try.prog 68 8 := .mk' (by kernel_rfl)
instance : Zer Try.prog 68 (Value.nilFunc) ([Value.nilFunc]) := .mk' (by kernel_rfl) rfl
theorem sz69 : (Try.prog.info? 69).map (·.size) = some 1 := by kernel_rfl
instance : Siz Try.prog 69 1 := .mk' sz69
instance : Und Try.prog 69 (.func #[9] #[38] false) := ⟨Try.underlying69⟩
instance : Scal Try.prog 69 := .mk' Try.underlying69 rfl sz69
instance : Byt Try.prog 69 8 := .mk' (by kernel_rfl)
instance : Zer Try.prog 69 (Value.nilFunc) ([Value.nilFunc]) := .mk' (by kernel_rfl) rfl
theorem sz70 : (Try.prog.info? 70).map (·.size) = some 1 := by kernel_rfl
instance : Siz Try.prog 70 1 := .mk' sz70
instance : Und Try.prog 70 (.func #[9] #[4] false) := ⟨Try.underlying70⟩
instance : Scal Try.prog 70 := .mk' Try.underlying70 rfl sz70
instance : Byt Try.prog 70 8 := .mk' (by kernel_rfl)
instance : Zer Try.prog 70 (Value.nilFunc) ([Value.nilFunc]) := .mk' (by kernel_rfl) rfl
theorem sz72 : (Try.prog.info? 72).map (·.size) = some 1 := by kernel_rfl
instance : Siz Try.prog 72 1 := .mk' sz72
instance : Und Try.prog 72 (.func #[9] #[3, 4] false) := ⟨Try.underlying72⟩
instance : Scal Try.prog 72 := .mk' Try.underlying72 rfl sz72
instance : Byt Try.prog 72 8 := .mk' (by kernel_rfl)
instance : Zer Try.prog 72 (Value.nilFunc) ([Value.nilFunc]) := .mk' (by kernel_rfl) rfl
theorem sz73 : (Try.prog.info? 73).map (·.size) = some 1 := by kernel_rfl
instance : Siz Try.prog 73 1 := .mk' sz73
instance : Und Try.prog 73 (.func #[9, 9] #[] false) := ⟨Try.underlying73⟩
instance : Scal Try.prog 73 := .mk' Try.underlying73 rfl sz73
instance : Byt Try.prog 73 8 := .mk' (by kernel_rfl)
instance : Zer Try.prog 73 (Value.nilFunc) ([Value.nilFunc]) := .mk' (by kernel_rfl) rfl
theorem sz74 : (Try.prog.info? 74).map (·.size) = some 1 := by kernel_rfl
instance : Siz Try.prog 74 1 := .mk' sz74
instance : Und Try.prog 74 (.func #[42, 70] #[42] false) := ⟨Try.underlying74⟩
instance : Scal Try.prog 74 := .mk' Try.underlying74 rfl sz74
instance : Byt Try.prog 74 8 := .mk' (by kernel_rfl)
instance : Zer Try.prog 74 (Value.nilFunc) ([Value.nilFunc]) := .mk' (by kernel_rfl) rfl
theorem sz75 : (Try.prog.info? 75).map (·.size) = some 1 := by kernel_rfl
instance : Siz Try.prog 75 1 := .mk' sz75
instance : Und Try.prog 75 (.func #[42, 70] #[3] false) := ⟨Try.underlying75⟩
instance : Scal Try.prog 75 := .mk' Try.underlying75 rfl sz75
instance : Byt Try.prog 75 8 := .mk' (by kernel_rfl)
instance : Zer Try.prog 75 (Value.nilFunc) ([Value.nilFunc]) := .mk' (by kernel_rfl) rfl
theorem sz76 : (Try.prog.info? 76).map (·.size) = some 1 := by kernel_rfl
instance : Siz Try.prog 76 1 := .mk' sz76
instance : Und Try.prog 76 (.func #[] #[9] false) := ⟨Try.underlying76⟩
instance : Scal Try.prog 76 := .mk' Try.underlying76 rfl sz76
instance : Byt Try.prog 76 8 := .mk' (by kernel_rfl)
instance : Zer Try.prog 76 (Value.nilFunc) ([Value.nilFunc]) := .mk' (by kernel_rfl) rfl
theorem sz77 : (Try.prog.info? 77).map (·.size) = some 4 := by kernel_rfl
instance : Siz Try.prog 77 4 := .mk' sz77
instance : Und Try.prog 77 (.struct #[⟨ "_interface", 17, 0, false, "", "runtime", 0⟩, ⟨ "concrete", 17, 1, false, "", "runtime", 8⟩, ⟨ "asserted", 17, 2, false, "", "runtime", 16⟩, ⟨ "missingMethod", 9, 3, false, "", "runtime", 24⟩]) := ⟨Try.underlying77⟩
instance : Aggr Try.prog 77 4 := .mk' Try.underlying77 rfl sz77
instance : Byt Try.prog 77 40 := .mk' (by kernel_rfl)
instance : Zer Try.prog 77 (.agg ([Value.pointer none, Value.pointer none, Value.pointer none, Value.string ⟨⟨[]⟩⟩]).toArray) ([Value.pointer none, Value.pointer none, Value.pointer none, Value.string ⟨⟨[]⟩⟩]) := .mk' (by kernel_rfl) rfl
instance : Pls Try.prog 77 [(0, 1), (1, 1), (2, 1), (3, 1)] := ⟨⟨_, Try.underlying77, fun w => by kernel_rfl⟩⟩
instance : FOff Try.prog 77 0 0 := .mk' (m := 0) (t := 17) Try.underlying77 rfl (by kernel_rfl)
instance : FOff Try.prog 77 1 1 := .mk' (m := 0) (t := 17) Try.underlying77 rfl (by kernel_rfl)
instance : FOff Try.prog 77 2 2 := .mk' (m := 0) (t := 17) Try.underlying77 rfl (by kernel_rfl)
instance : FOff Try.prog 77 3 3 := .mk' (m := 0) (t := 9) Try.underlying77 rfl (by kernel_rfl)
theorem sz78 : (Try.prog.info? 78).map (·.size) = some 4 := by kernel_rfl
instance : Siz Try.prog 78 4 := .mk' sz78
instance : Und Try.prog 78 (.struct #[⟨ "_interface", 17, 0, false, "", "runtime", 0⟩, ⟨ "concrete", 17, 1, false, "", "runtime", 8⟩, ⟨ "asserted", 17, 2, false, "", "runtime", 16⟩, ⟨ "missingMethod", 9, 3, false, "", "runtime", 24⟩]) := ⟨Try.underlying78⟩
instance : Aggr Try.prog 78 4 := .mk' Try.underlying78 rfl sz78
instance : Byt Try.prog 78 40 := .mk' (by kernel_rfl)
instance : Zer Try.prog 78 (.agg ([Value.pointer none, Value.pointer none, Value.pointer none, Value.string ⟨⟨[]⟩⟩]).toArray) ([Value.pointer none, Value.pointer none, Value.pointer none, Value.string ⟨⟨[]⟩⟩]) := .mk' (by kernel_rfl) rfl
instance : Pls Try.prog 78 [(0, 1), (1, 1), (2, 1), (3, 1)] := ⟨⟨_, Try.underlying78, fun w => by kernel_rfl⟩⟩
instance : FOff Try.prog 78 0 0 := .mk' (m := 0) (t := 17) Try.underlying78 rfl (by kernel_rfl)
instance : FOff Try.prog 78 1 1 := .mk' (m := 0) (t := 17) Try.underlying78 rfl (by kernel_rfl)
instance : FOff Try.prog 78 2 2 := .mk' (m := 0) (t := 17) Try.underlying78 rfl (by kernel_rfl)
instance : FOff Try.prog 78 3 3 := .mk' (m := 0) (t := 9) Try.underlying78 rfl (by kernel_rfl)
theorem sz79 : (Try.prog.info? 79).map (·.size) = some 0 := by kernel_rfl
instance : Siz Try.prog 79 0 := .mk' sz79
instance : Und Try.prog 79 (.array 0 16) := ⟨Try.underlying79⟩
instance : Aggr Try.prog 79 0 := .mk' Try.underlying79 rfl sz79
instance : Byt Try.prog 79 0 := .mk' (by kernel_rfl)
instance : Zer Try.prog 79 (.agg ([]).toArray) ([]) := .mk' (by kernel_rfl) rfl
theorem sz80 : (Try.prog.info? 80).map (·.size) = some 0 := by kernel_rfl
instance : Siz Try.prog 80 0 := .mk' sz80
instance : Und Try.prog 80 (.struct #[⟨ "_", 79, 0, false, "", "runtime", 0⟩]) := ⟨Try.underlying80⟩
instance : Aggr Try.prog 80 0 := .mk' Try.underlying80 rfl sz80
instance : Byt Try.prog 80 0 := .mk' (by kernel_rfl)
instance : Zer Try.prog 80 (.agg ([]).toArray) ([]) := .mk' (by kernel_rfl) rfl
instance : Pls Try.prog 80 [(0, 0)] := ⟨⟨_, Try.underlying80, fun w => by kernel_rfl⟩⟩
theorem sz81 : (Try.prog.info? 81).map (·.size) = some 0 := by kernel_rfl
instance : Siz Try.prog 81 0 := .mk' sz81
instance : Und Try.prog 81 (.struct #[⟨ "_", 79, 0, false, "", "runtime", 0⟩]) := ⟨Try.underlying81⟩
instance : Aggr Try.prog 81 0 := .mk' Try.underlying81 rfl sz81
instance : Byt Try.prog 81 0 := .mk' (by kernel_rfl)
instance : Zer Try.prog 81 (.agg ([]).toArray) ([]) := .mk' (by kernel_rfl) rfl
instance : Pls Try.prog 81 [(0, 0)] := ⟨⟨_, Try.underlying81, fun w => by kernel_rfl⟩⟩
theorem sz82 : (Try.prog.info? 82).map (·.size) = some 1 := by kernel_rfl
instance : Siz Try.prog 82 1 := .mk' sz82
instance : Und Try.prog 82 (.func #[] #[3] false) := ⟨Try.underlying82⟩
instance : Scal Try.prog 82 := .mk' Try.underlying82 rfl sz82
instance : Byt Try.prog 82 8 := .mk' (by kernel_rfl)
instance : Zer Try.prog 82 (Value.nilFunc) ([Value.nilFunc]) := .mk' (by kernel_rfl) rfl
theorem sz83 : (Try.prog.info? 83).map (·.size) = some 1 := by kernel_rfl
instance : Siz Try.prog 83 1 := .mk' sz83
instance : Und Try.prog 83 (.int .u32) := ⟨Try.underlying83⟩
instance : Scal Try.prog 83 := .mk' Try.underlying83 rfl sz83
instance : Byt Try.prog 83 4 := .mk' (by kernel_rfl)
instance : Zer Try.prog 83 (Value.int .u32 0) ([Value.int .u32 0]) := .mk' (by kernel_rfl) rfl
theorem sz84 : (Try.prog.info? 84).map (·.size) = some 1 := by kernel_rfl
instance : Siz Try.prog 84 1 := .mk' sz84
instance : Und Try.prog 84 (.int .u8) := ⟨Try.underlying84⟩
instance : Scal Try.prog 84 := .mk' Try.underlying84 rfl sz84
instance : Byt Try.prog 84 1 := .mk' (by kernel_rfl)
instance : Zer Try.prog 84 (Value.int .u8 0) ([Value.int .u8 0]) := .mk' (by kernel_rfl) rfl
theorem sz85 : (Try.prog.info? 85).map (·.size) = some 1 := by kernel_rfl
instance : Siz Try.prog 85 1 := .mk' sz85
instance : Und Try.prog 85 (.int .u8) := ⟨Try.underlying85⟩
instance : Scal Try.prog 85 := .mk' Try.underlying85 rfl sz85
instance : Byt Try.prog 85 1 := .mk' (by kernel_rfl)
instance : Zer Try.prog 85 (Value.int .u8 0) ([Value.int .u8 0]) := .mk' (by kernel_rfl) rfl
theorem sz86 : (Try.prog.info? 86).map (·.size) = some 1 := by kernel_rfl
instance : Siz Try.prog 86 1 := .mk' sz86
instance : Und Try.prog 86 (.func #[124, 124] #[4] false) := ⟨Try.underlying86⟩
instance : Scal Try.prog 86 := .mk' Try.underlying86 rfl sz86
instance : Byt Try.prog 86 8 := .mk' (by kernel_rfl)
instance : Zer Try.prog 86 (Value.nilFunc) ([Value.nilFunc]) := .mk' (by kernel_rfl) rfl
theorem sz87 : (Try.prog.info? 87).map (·.size) = some 1 := by kernel_rfl
instance : Siz Try.prog 87 1 := .mk' sz87
instance : Und Try.prog 87 (.pointer 5) := ⟨Try.underlying87⟩
instance : Scal Try.prog 87 := .mk' Try.underlying87 rfl sz87
instance : Byt Try.prog 87 8 := .mk' (by kernel_rfl)
instance : Zer Try.prog 87 (Value.pointer none) ([Value.pointer none]) := .mk' (by kernel_rfl) rfl
theorem sz88 : (Try.prog.info? 88).map (·.size) = some 1 := by kernel_rfl
instance : Siz Try.prog 88 1 := .mk' sz88
instance : Und Try.prog 88 (.int .i32) := ⟨Try.underlying88⟩
instance : Scal Try.prog 88 := .mk' Try.underlying88 rfl sz88
instance : Byt Try.prog 88 4 := .mk' (by kernel_rfl)
instance : Zer Try.prog 88 (Value.int .i32 0) ([Value.int .i32 0]) := .mk' (by kernel_rfl) rfl
theorem sz89 : (Try.prog.info? 89).map (·.size) = some 1 := by kernel_rfl
instance : Siz Try.prog 89 1 := .mk' sz89
instance : Und Try.prog 89 (.int .i32) := ⟨Try.underlying89⟩
instance : Scal Try.prog 89 := .mk' Try.underlying89 rfl sz89
instance : Byt Try.prog 89 4 := .mk' (by kernel_rfl)
instance : Zer Try.prog 89 (Value.int .i32 0) ([Value.int .i32 0]) := .mk' (by kernel_rfl) rfl
theorem sz90 : (Try.prog.info? 90).map (·.size) = some 11 := by kernel_rfl
instance : Siz Try.prog 90 11 := .mk' sz90
instance : Und Try.prog 90 (.struct #[⟨ "Size_", 12, 0, false, "", "", 0⟩, ⟨ "PtrBytes", 12, 1, false, "", "", 8⟩, ⟨ "Hash", 83, 2, false, "", "", 16⟩, ⟨ "TFlag", 84, 3, false, "", "", 20⟩, ⟨ "Align_", 5, 4, false, "", "", 21⟩, ⟨ "FieldAlign_", 5, 5, false, "", "", 22⟩, ⟨ "Kind_", 85, 6, false, "", "", 23⟩, ⟨ "Equal", 86, 7, false, "", "", 24⟩, ⟨ "GCData", 87, 8, false, "", "", 32⟩, ⟨ "Str", 88, 9, false, "", "", 40⟩, ⟨ "PtrToThis", 89, 10, false, "", "", 44⟩]) := ⟨Try.underlying90⟩
instance : Aggr Try.prog 90 11 := .mk' Try.underlying90 rfl sz90
instance : Byt Try.prog 90 48 := .mk' (by kernel_rfl)
instance : Zer Try.prog 90 (.agg ([Value.int .u64 0, Value.int .u64 0, Value.int .u32 0, Value.int .u8 0, Value.int .u8 0, Value.int .u8 0, Value.int .u8 0, Value.nilFunc, Value.pointer none, Value.int .i32 0, Value.int .i32 0]).toArray) ([Value.int .u64 0, Value.int .u64 0, Value.int .u32 0, Value.int .u8 0, Value.int .u8 0, Value.int .u8 0, Value.int .u8 0, Value.nilFunc, Value.pointer none, Value.int .i32 0, Value.int .i32 0]) := .mk' (by kernel_rfl) rfl
instance : Pls Try.prog 90 [(0, 1), (1, 1), (2, 1), (3, 1), (4, 1), (5, 1), (6, 1), (7, 1), (8, 1), (9, 1), (10, 1)] := ⟨⟨_, Try.underlying90, fun w => by kernel_rfl⟩⟩
instance : FOff Try.prog 90 0 0 := .mk' (m := 0) (t := 12) Try.underlying90 rfl (by kernel_rfl)
instance : FOff Try.prog 90 1 1 := .mk' (m := 0) (t := 12) Try.underlying90 rfl (by kernel_rfl)
instance : FOff Try.prog 90 2 2 := .mk' (m := 0) (t := 83) Try.underlying90 rfl (by kernel_rfl)
instance : FOff Try.prog 90 3 3 := .mk' (m := 0) (t := 84) Try.underlying90 rfl (by kernel_rfl)
instance : FOff Try.prog 90 4 4 := .mk' (m := 0) (t := 5) Try.underlying90 rfl (by kernel_rfl)
instance : FOff Try.prog 90 5 5 := .mk' (m := 0) (t := 5) Try.underlying90 rfl (by kernel_rfl)
instance : FOff Try.prog 90 6 6 := .mk' (m := 0) (t := 85) Try.underlying90 rfl (by kernel_rfl)
instance : FOff Try.prog 90 7 7 := .mk' (m := 0) (t := 86) Try.underlying90 rfl (by kernel_rfl)
instance : FOff Try.prog 90 8 8 := .mk' (m := 0) (t := 87) Try.underlying90 rfl (by kernel_rfl)
instance : FOff Try.prog 90 9 9 := .mk' (m := 0) (t := 88) Try.underlying90 rfl (by kernel_rfl)
instance : FOff Try.prog 90 10 10 := .mk' (m := 0) (t := 89) Try.underlying90 rfl (by kernel_rfl)
theorem sz91 : (Try.prog.info? 91).map (·.size) = some 11 := by kernel_rfl
instance : Siz Try.prog 91 11 := .mk' sz91
instance : Und Try.prog 91 (.struct #[⟨ "Size_", 12, 0, false, "", "", 0⟩, ⟨ "PtrBytes", 12, 1, false, "", "", 8⟩, ⟨ "Hash", 83, 2, false, "", "", 16⟩, ⟨ "TFlag", 84, 3, false, "", "", 20⟩, ⟨ "Align_", 5, 4, false, "", "", 21⟩, ⟨ "FieldAlign_", 5, 5, false, "", "", 22⟩, ⟨ "Kind_", 85, 6, false, "", "", 23⟩, ⟨ "Equal", 86, 7, false, "", "", 24⟩, ⟨ "GCData", 87, 8, false, "", "", 32⟩, ⟨ "Str", 88, 9, false, "", "", 40⟩, ⟨ "PtrToThis", 89, 10, false, "", "", 44⟩]) := ⟨Try.underlying91⟩
instance : Aggr Try.prog 91 11 := .mk' Try.underlying91 rfl sz91
instance : Byt Try.prog 91 48 := .mk' (by kernel_rfl)
instance : Zer Try.prog 91 (.agg ([Value.int .u64 0, Value.int .u64 0, Value.int .u32 0, Value.int .u8 0, Value.int .u8 0, Value.int .u8 0, Value.int .u8 0, Value.nilFunc, Value.pointer none, Value.int .i32 0, Value.int .i32 0]).toArray) ([Value.int .u64 0, Value.int .u64 0, Value.int .u32 0, Value.int .u8 0, Value.int .u8 0, Value.int .u8 0, Value.int .u8 0, Value.nilFunc, Value.pointer none, Value.int .i32 0, Value.int .i32 0]) := .mk' (by kernel_rfl) rfl
instance : Pls Try.prog 91 [(0, 1), (1, 1), (2, 1), (3, 1), (4, 1), (5, 1), (6, 1), (7, 1), (8, 1), (9, 1), (10, 1)] := ⟨⟨_, Try.underlying91, fun w => by kernel_rfl⟩⟩
instance : FOff Try.prog 91 0 0 := .mk' (m := 0) (t := 12) Try.underlying91 rfl (by kernel_rfl)
instance : FOff Try.prog 91 1 1 := .mk' (m := 0) (t := 12) Try.underlying91 rfl (by kernel_rfl)
instance : FOff Try.prog 91 2 2 := .mk' (m := 0) (t := 83) Try.underlying91 rfl (by kernel_rfl)
instance : FOff Try.prog 91 3 3 := .mk' (m := 0) (t := 84) Try.underlying91 rfl (by kernel_rfl)
instance : FOff Try.prog 91 4 4 := .mk' (m := 0) (t := 5) Try.underlying91 rfl (by kernel_rfl)
instance : FOff Try.prog 91 5 5 := .mk' (m := 0) (t := 5) Try.underlying91 rfl (by kernel_rfl)
instance : FOff Try.prog 91 6 6 := .mk' (m := 0) (t := 85) Try.underlying91 rfl (by kernel_rfl)
instance : FOff Try.prog 91 7 7 := .mk' (m := 0) (t := 86) Try.underlying91 rfl (by kernel_rfl)
instance : FOff Try.prog 91 8 8 := .mk' (m := 0) (t := 87) Try.underlying91 rfl (by kernel_rfl)
instance : FOff Try.prog 91 9 9 := .mk' (m := 0) (t := 88) Try.underlying91 rfl (by kernel_rfl)
instance : FOff Try.prog 91 10 10 := .mk' (m := 0) (t := 89) Try.underlying91 rfl (by kernel_rfl)
theorem sz92 : (Try.prog.info? 92).map (·.size) = some 1 := by kernel_rfl
instance : Siz Try.prog 92 1 := .mk' sz92
instance : Und Try.prog 92 (.func #[9, 9, 3] #[38] false) := ⟨Try.underlying92⟩
instance : Scal Try.prog 92 := .mk' Try.underlying92 rfl sz92
instance : Byt Try.prog 92 8 := .mk' (by kernel_rfl)
instance : Zer Try.prog 92 (Value.nilFunc) ([Value.nilFunc]) := .mk' (by kernel_rfl) rfl
theorem sz93 : (Try.prog.info? 93).map (·.size) = some 1 := by kernel_rfl
instance : Siz Try.prog 93 1 := .mk' sz93
instance : Und Try.prog 93 (.struct #[⟨ "s", 9, 0, false, "", "ciborium/view", 0⟩]) := ⟨Try.underlying93⟩
instance : Aggr Try.prog 93 1 := .mk' Try.underlying93 rfl sz93
instance : Byt Try.prog 93 16 := .mk' (by kernel_rfl)
instance : Zer Try.prog 93 (.agg ([Value.string ⟨⟨[]⟩⟩]).toArray) ([Value.string ⟨⟨[]⟩⟩]) := .mk' (by kernel_rfl) rfl
instance : Pls Try.prog 93 [(0, 1)] := ⟨⟨_, Try.underlying93, fun w => by kernel_rfl⟩⟩
instance : FOff Try.prog 93 0 0 := .mk' (m := 0) (t := 9) Try.underlying93 rfl (by kernel_rfl)
theorem sz94 : (Try.prog.info? 94).map (·.size) = some 1 := by kernel_rfl
instance : Siz Try.prog 94 1 := .mk' sz94
instance : Und Try.prog 94 (.struct #[⟨ "s", 9, 0, false, "", "ciborium/view", 0⟩]) := ⟨Try.underlying94⟩
instance : Aggr Try.prog 94 1 := .mk' Try.underlying94 rfl sz94
instance : Byt Try.prog 94 16 := .mk' (by kernel_rfl)
instance : Zer Try.prog 94 (.agg ([Value.string ⟨⟨[]⟩⟩]).toArray) ([Value.string ⟨⟨[]⟩⟩]) := .mk' (by kernel_rfl) rfl
instance : Pls Try.prog 94 [(0, 1)] := ⟨⟨_, Try.underlying94, fun w => by kernel_rfl⟩⟩
instance : FOff Try.prog 94 0 0 := .mk' (m := 0) (t := 9) Try.underlying94 rfl (by kernel_rfl)
theorem sz96 : (Try.prog.info? 96).map (·.size) = some 1 := by kernel_rfl
instance : Siz Try.prog 96 1 := .mk' sz96
instance : Und Try.prog 96 (.func #[98] #[42] false) := ⟨Try.underlying96⟩
instance : Scal Try.prog 96 := .mk' Try.underlying96 rfl sz96
instance : Byt Try.prog 96 8 := .mk' (by kernel_rfl)
instance : Zer Try.prog 96 (Value.nilFunc) ([Value.nilFunc]) := .mk' (by kernel_rfl) rfl
theorem sz97 : (Try.prog.info? 97).map (·.size) = some 1 := by kernel_rfl
instance : Siz Try.prog 97 1 := .mk' sz97
instance : Und Try.prog 97 (.func #[70] #[] false) := ⟨Try.underlying97⟩
instance : Scal Try.prog 97 := .mk' Try.underlying97 rfl sz97
instance : Byt Try.prog 97 8 := .mk' (by kernel_rfl)
instance : Zer Try.prog 97 (Value.nilFunc) ([Value.nilFunc]) := .mk' (by kernel_rfl) rfl
theorem sz98 : (Try.prog.info? 98).map (·.size) = some 1 := by kernel_rfl
instance : Siz Try.prog 98 1 := .mk' sz98
instance : Und Try.prog 98 (.func #[70] #[] false) := ⟨Try.underlying98⟩
instance : Scal Try.prog 98 := .mk' Try.underlying98 rfl sz98
instance : Byt Try.prog 98 8 := .mk' (by kernel_rfl)
instance : Zer Try.prog 98 (Value.nilFunc) ([Value.nilFunc]) := .mk' (by kernel_rfl) rfl
theorem sz99 : (Try.prog.info? 99).map (·.size) = some 1 := by kernel_rfl
instance : Siz Try.prog 99 1 := .mk' sz99
instance : Und Try.prog 99 (.func #[49] #[98] false) := ⟨Try.underlying99⟩
instance : Scal Try.prog 99 := .mk' Try.underlying99 rfl sz99
instance : Byt Try.prog 99 8 := .mk' (by kernel_rfl)
instance : Zer Try.prog 99 (Value.nilFunc) ([Value.nilFunc]) := .mk' (by kernel_rfl) rfl
theorem sz100 : (Try.prog.info? 100).map (·.size) = some 1 := by kernel_rfl
instance : Siz Try.prog 100 1 := .mk' sz100
instance : Und Try.prog 100 (.func #[42] #[] false) := ⟨Try.underlying100⟩
instance : Scal Try.prog 100 := .mk' Try.underlying100 rfl sz100
instance : Byt Try.prog 100 8 := .mk' (by kernel_rfl)
instance : Zer Try.prog 100 (Value.nilFunc) ([Value.nilFunc]) := .mk' (by kernel_rfl) rfl
theorem sz101 : (Try.prog.info? 101).map (·.size) = some 1 := by kernel_rfl
instance : Siz Try.prog 101 1 := .mk' sz101
instance : Und Try.prog 101 (.func #[42, 98] #[42] false) := ⟨Try.underlying101⟩
instance : Scal Try.prog 101 := .mk' Try.underlying101 rfl sz101
instance : Byt Try.prog 101 8 := .mk' (by kernel_rfl)
instance : Zer Try.prog 101 (Value.nilFunc) ([Value.nilFunc]) := .mk' (by kernel_rfl) rfl
theorem sz102 : (Try.prog.info? 102).map (·.size) = some 1 := by kernel_rfl
instance : Siz Try.prog 102 1 := .mk' sz102
instance : Und Try.prog 102 (.func #[42, 3, 3, 3] #[] false) := ⟨Try.underlying102⟩
instance : Scal Try.prog 102 := .mk' Try.underlying102 rfl sz102
instance : Byt Try.prog 102 8 := .mk' (by kernel_rfl)
instance : Zer Try.prog 102 (Value.nilFunc) ([Value.nilFunc]) := .mk' (by kernel_rfl) rfl
theorem sz103 : (Try.prog.info? 103).map (·.size) = some 1 := by kernel_rfl
instance : Siz Try.prog 103 1 := .mk' sz103
instance : Und Try.prog 103 (.func #[104] #[3] false) := ⟨Try.underlying103⟩
instance : Scal Try.prog 103 := .mk' Try.underlying103 rfl sz103
instance : Byt Try.prog 103 8 := .mk' (by kernel_rfl)
instance : Zer Try.prog 103 (Value.nilFunc) ([Value.nilFunc]) := .mk' (by kernel_rfl) rfl
theorem sz104 : (Try.prog.info? 104).map (·.size) = some 1 := by kernel_rfl
instance : Siz Try.prog 104 1 := .mk' sz104
instance : Und Try.prog 104 (.int .u64) := ⟨Try.underlying104⟩
instance : Scal Try.prog 104 := .mk' Try.underlying104 rfl sz104
instance : Byt Try.prog 104 8 := .mk' (by kernel_rfl)
instance : Zer Try.prog 104 (Value.int .u64 0) ([Value.int .u64 0]) := .mk' (by kernel_rfl) rfl
theorem sz105 : (Try.prog.info? 105).map (·.size) = some 1 := by kernel_rfl
instance : Siz Try.prog 105 1 := .mk' sz105
instance : Und Try.prog 105 (.func #[42, 3, 3] #[] false) := ⟨Try.underlying105⟩
instance : Scal Try.prog 105 := .mk' Try.underlying105 rfl sz105
instance : Byt Try.prog 105 8 := .mk' (by kernel_rfl)
instance : Zer Try.prog 105 (Value.nilFunc) ([Value.nilFunc]) := .mk' (by kernel_rfl) rfl
theorem sz106 : (Try.prog.info? 106).map (·.size) = some 1 := by kernel_rfl
instance : Siz Try.prog 106 1 := .mk' sz106
instance : Und Try.prog 106 (.int .i64) := ⟨Try.underlying106⟩
instance : Scal Try.prog 106 := .mk' Try.underlying106 rfl sz106
instance : Byt Try.prog 106 8 := .mk' (by kernel_rfl)
instance : Zer Try.prog 106 (Value.int .i64 0) ([Value.int .i64 0]) := .mk' (by kernel_rfl) rfl
theorem sz108 : (Try.prog.info? 108).map (·.size) = some 1 := by kernel_rfl
instance : Siz Try.prog 108 1 := .mk' sz108
instance : Und Try.prog 108 (.func #[42, 3, 3] #[3, 106] false) := ⟨Try.underlying108⟩
instance : Scal Try.prog 108 := .mk' Try.underlying108 rfl sz108
instance : Byt Try.prog 108 8 := .mk' (by kernel_rfl)
instance : Zer Try.prog 108 (Value.nilFunc) ([Value.nilFunc]) := .mk' (by kernel_rfl) rfl
theorem sz109 : (Try.prog.info? 109).map (·.size) = some 1 := by kernel_rfl
instance : Siz Try.prog 109 1 := .mk' sz109
instance : Und Try.prog 109 (.func #[42, 3, 3] #[4] false) := ⟨Try.underlying109⟩
instance : Scal Try.prog 109 := .mk' Try.underlying109 rfl sz109
instance : Byt Try.prog 109 8 := .mk' (by kernel_rfl)
instance : Zer Try.prog 109 (Value.nilFunc) ([Value.nilFunc]) := .mk' (by kernel_rfl) rfl
theorem sz110 : (Try.prog.info? 110).map (·.size) = some 1 := by kernel_rfl
instance : Siz Try.prog 110 1 := .mk' sz110
instance : Und Try.prog 110 (.func #[42, 3, 3, 3] #[3] false) := ⟨Try.underlying110⟩
instance : Scal Try.prog 110 := .mk' Try.underlying110 rfl sz110
instance : Byt Try.prog 110 8 := .mk' (by kernel_rfl)
instance : Zer Try.prog 110 (Value.nilFunc) ([Value.nilFunc]) := .mk' (by kernel_rfl) rfl
theorem sz111 : (Try.prog.info? 111).map (·.size) = some 1 := by kernel_rfl
instance : Siz Try.prog 111 1 := .mk' sz111
instance : Und Try.prog 111 (.func #[42, 3, 3, 3] #[3, 4] false) := ⟨Try.underlying111⟩
instance : Scal Try.prog 111 := .mk' Try.underlying111 rfl sz111
instance : Byt Try.prog 111 8 := .mk' (by kernel_rfl)
instance : Zer Try.prog 111 (Value.nilFunc) ([Value.nilFunc]) := .mk' (by kernel_rfl) rfl
theorem sz112 : (Try.prog.info? 112).map (·.size) = some 1 := by kernel_rfl
instance : Siz Try.prog 112 1 := .mk' sz112
instance : Und Try.prog 112 (.func #[83] #[3] false) := ⟨Try.underlying112⟩
instance : Scal Try.prog 112 := .mk' Try.underlying112 rfl sz112
instance : Byt Try.prog 112 8 := .mk' (by kernel_rfl)
instance : Zer Try.prog 112 (Value.nilFunc) ([Value.nilFunc]) := .mk' (by kernel_rfl) rfl
theorem sz113 : (Try.prog.info? 113).map (·.size) = some 1 := by kernel_rfl
instance : Siz Try.prog 113 1 := .mk' sz113
instance : Und Try.prog 113 (.func #[114] #[3] false) := ⟨Try.underlying113⟩
instance : Scal Try.prog 113 := .mk' Try.underlying113 rfl sz113
instance : Byt Try.prog 113 8 := .mk' (by kernel_rfl)
instance : Zer Try.prog 113 (Value.nilFunc) ([Value.nilFunc]) := .mk' (by kernel_rfl) rfl
theorem sz114 : (Try.prog.info? 114).map (·.size) = some 1 := by kernel_rfl
instance : Siz Try.prog 114 1 := .mk' sz114
instance : Und Try.prog 114 (.int .u64) := ⟨Try.underlying114⟩
instance : Scal Try.prog 114 := .mk' Try.underlying114 rfl sz114
instance : Byt Try.prog 114 8 := .mk' (by kernel_rfl)
instance : Zer Try.prog 114 (Value.int .u64 0) ([Value.int .u64 0]) := .mk' (by kernel_rfl) rfl
theorem sz115 : (Try.prog.info? 115).map (·.size) = some 1 := by kernel_rfl
instance : Siz Try.prog 115 1 := .mk' sz115
instance : Und Try.prog 115 (.int .u64) := ⟨Try.underlying115⟩
instance : Scal Try.prog 115 := .mk' Try.underlying115 rfl sz115
instance : Byt Try.prog 115 8 := .mk' (by kernel_rfl)
instance : Zer Try.prog 115 (Value.int .u64 0) ([Value.int .u64 0]) := .mk' (by kernel_rfl) rfl
theorem sz116 : (Try.prog.info? 116).map (·.size) = some 1 := by kernel_rfl
instance : Siz Try.prog 116 1 := .mk' sz116
instance : Und Try.prog 116 (.func #[3] #[104] false) := ⟨Try.underlying116⟩
instance : Scal Try.prog 116 := .mk' Try.underlying116 rfl sz116
instance : Byt Try.prog 116 8 := .mk' (by kernel_rfl)
instance : Zer Try.prog 116 (Value.nilFunc) ([Value.nilFunc]) := .mk' (by kernel_rfl) rfl
theorem sz117 : (Try.prog.info? 117).map (·.size) = some 1 := by kernel_rfl
instance : Siz Try.prog 117 1 := .mk' sz117
instance : Und Try.prog 117 (.func #[] #[114] false) := ⟨Try.underlying117⟩
instance : Scal Try.prog 117 := .mk' Try.underlying117 rfl sz117
instance : Byt Try.prog 117 8 := .mk' (by kernel_rfl)
instance : Zer Try.prog 117 (Value.nilFunc) ([Value.nilFunc]) := .mk' (by kernel_rfl) rfl
theorem sz118 : (Try.prog.info? 118).map (·.size) = some 1 := by kernel_rfl
instance : Siz Try.prog 118 1 := .mk' sz118
instance : Und Try.prog 118 (.func #[42, 3, 119] #[3] false) := ⟨Try.underlying118⟩
instance : Scal Try.prog 118 := .mk' Try.underlying118 rfl sz118
instance : Byt Try.prog 118 8 := .mk' (by kernel_rfl)
instance : Zer Try.prog 118 (Value.nilFunc) ([Value.nilFunc]) := .mk' (by kernel_rfl) rfl
theorem sz119 : (Try.prog.info? 119).map (·.size) = some 1 := by kernel_rfl
instance : Siz Try.prog 119 1 := .mk' sz119
instance : Und Try.prog 119 (.pointer 3) := ⟨Try.underlying119⟩
instance : Scal Try.prog 119 := .mk' Try.underlying119 rfl sz119
instance : Byt Try.prog 119 8 := .mk' (by kernel_rfl)
instance : Zer Try.prog 119 (Value.pointer none) ([Value.pointer none]) := .mk' (by kernel_rfl) rfl
theorem sz120 : (Try.prog.info? 120).map (·.size) = some 1 := by kernel_rfl
instance : Siz Try.prog 120 1 := .mk' sz120
instance : Und Try.prog 120 (.func #[42, 3, 3, 3, 119] #[3] false) := ⟨Try.underlying120⟩
instance : Scal Try.prog 120 := .mk' Try.underlying120 rfl sz120
instance : Byt Try.prog 120 8 := .mk' (by kernel_rfl)
instance : Zer Try.prog 120 (Value.nilFunc) ([Value.nilFunc]) := .mk' (by kernel_rfl) rfl
theorem sz121 : (Try.prog.info? 121).map (·.size) = some 1 := by kernel_rfl
instance : Siz Try.prog 121 1 := .mk' sz121
instance : Und Try.prog 121 (.pointer 115) := ⟨Try.underlying121⟩
instance : Scal Try.prog 121 := .mk' Try.underlying121 rfl sz121
instance : Byt Try.prog 121 8 := .mk' (by kernel_rfl)
instance : Zer Try.prog 121 (Value.pointer none) ([Value.pointer none]) := .mk' (by kernel_rfl) rfl
theorem sz123 : (Try.prog.info? 123).map (·.size) = some 1 := by kernel_rfl
instance : Siz Try.prog 123 1 := .mk' sz123
instance : Und Try.prog 123 (.func #[42, 3, 3, 119] #[3, 3] false) := ⟨Try.underlying123⟩
instance : Scal Try.prog 123 := .mk' Try.underlying123 rfl sz123
instance : Byt Try.prog 123 8 := .mk' (by kernel_rfl)
instance : Zer Try.prog 123 (Value.nilFunc) ([Value.nilFunc]) := .mk' (by kernel_rfl) rfl
theorem sz124 : (Try.prog.info? 124).map (·.size) = some 1 := by kernel_rfl
instance : Siz Try.prog 124 1 := .mk' sz124
instance : Scal Try.prog 124 := .mk' Try.underlying124 rfl sz124
instance : Byt Try.prog 124 8 := .mk' (by kernel_rfl)
instance : Ent Try.prog 2 := .mk' Try.func2 (by kernel_rfl) (by decide +kernel)
instance : Ent Try.prog 3 := .mk' Try.func3 (by kernel_rfl) (by decide +kernel)
instance : Ent Try.prog 4 := .mk' Try.func4 (by kernel_rfl) (by decide +kernel)
instance : Ent Try.prog 5 := .mk' Try.func5 (by kernel_rfl) (by decide +kernel)
instance : Ent Try.prog 6 := .mk' Try.func6 (by kernel_rfl) (by decide +kernel)
instance : Ent Try.prog 7 := .mk' Try.func7 (by kernel_rfl) (by decide +kernel)
instance : Ent Try.prog 8 := .mk' Try.func8 (by kernel_rfl) (by decide +kernel)
instance : Ent Try.prog 9 := .mk' Try.func9 (by kernel_rfl) (by decide +kernel)
instance : Ent Try.prog 10 := .mk' Try.func10 (by kernel_rfl) (by decide +kernel)
instance : Ent Try.prog 11 := .mk' Try.func11 (by kernel_rfl) (by decide +kernel)
instance : Ent Try.prog 12 := .mk' Try.func12 (by kernel_rfl) (by decide +kernel)
instance : Ent Try.prog 13 := .mk' Try.func13 (by kernel_rfl) (by decide +kernel)
instance : Ent Try.prog 14 := .mk' Try.func14 (by kernel_rfl) (by decide +kernel)
instance : Ent Try.prog 15 := .mk' Try.func15 (by kernel_rfl) (by decide +kernel)
instance : Ent Try.prog 16 := .mk' Try.func16 (by kernel_rfl) (by decide +kernel)
instance : Ent Try.prog 17 := .mk' Try.func17 (by kernel_rfl) (by decide +kernel)
instance : Ent Try.prog 18 := .mk' Try.func18 (by kernel_rfl) (by decide +kernel)
instance : Ent Try.prog 19 := .mk' Try.func19 (by kernel_rfl) (by decide +kernel)
instance : Ent Try.prog 20 := .mk' Try.func20 (by kernel_rfl) (by decide +kernel)
instance : Ent Try.prog 21 := .mk' Try.func21 (by kernel_rfl) (by decide +kernel)
instance : Ent Try.prog 22 := .mk' Try.func22 (by kernel_rfl) (by decide +kernel)
instance : Ent Try.prog 23 := .mk' Try.func23 (by kernel_rfl) (by decide +kernel)
instance : Ent Try.prog 24 := .mk' Try.func24 (by kernel_rfl) (by decide +kernel)
instance : Ent Try.prog 25 := .mk' Try.func25 (by kernel_rfl) (by decide +kernel)
instance : Ent Try.prog 26 := .mk' Try.func26 (by kernel_rfl) (by decide +kernel)
instance : Ent Try.prog 27 := .mk' Try.func27 (by kernel_rfl) (by decide +kernel)
instance : Ent Try.prog 28 := .mk' Try.func28 (by kernel_rfl) (by decide +kernel)
instance : Ent Try.prog 29 := .mk' Try.func29 (by kernel_rfl) (by decide +kernel)
instance : Ent Try.prog 30 := .mk' Try.func30 (by kernel_rfl) (by decide +kernel)
instance : Ent Try.prog 31 := .mk' Try.func31 (by kernel_rfl) (by decide +kernel)
instance : Ent Try.prog 32 := .mk' Try.func32 (by kernel_rfl) (by decide +kernel)
instance : Ent Try.prog 48 := .mk' Try.func48 (by kernel_rfl) (by decide +kernel)
instance : Ent Try.prog 49 := .mk' Try.func49 (by kernel_rfl) (by decide +kernel)
instance : Ent Try.prog 51 := .mk' Try.func51 (by kernel_rfl) (by decide +kernel)
instance : Ent Try.prog 52 := .mk' Try.func52 (by kernel_rfl) (by decide +kernel)
instance : Ent Try.prog 53 := .mk' Try.func53 (by kernel_rfl) (by decide +kernel)
instance : Ent Try.prog 54 := .mk' Try.func54 (by kernel_rfl) (by decide +kernel)
instance : Ent Try.prog 55 := .mk' Try.func55 (by kernel_rfl) (by decide +kernel)
instance : Ent Try.prog 56 := .mk' Try.func56 (by kernel_rfl) (by decide +kernel)
instance : Ent Try.prog 57 := .mk' Try.func57 (by kernel_rfl) (by decide +kernel)
instance : Ent Try.prog 58 := .mk' Try.func58 (by kernel_rfl) (by decide +kernel)
instance : Ent Try.prog 59 := .mk' Try.func59 (by kernel_rfl) (by decide +kernel)
instance : Ent Try.prog 60 := .mk' Try.func60 (by kernel_rfl) (by decide +kernel)
instance : Ent Try.prog 61 := .mk' Try.func61 (by kernel_rfl) (by decide +kernel)
instance : Ent Try.prog 62 := .mk' Try.func62 (by kernel_rfl) (by decide +kernel)
instance : Ent Try.prog 63 := .mk' Try.func63 (by kernel_rfl) (by decide +kernel)
instance : Ent Try.prog 64 := .mk' Try.func64 (by kernel_rfl) (by decide +kernel)
instance : Ent Try.prog 65 := .mk' Try.func65 (by kernel_rfl) (by decide +kernel)
instance : Ent Try.prog 66 := .mk' Try.func66 (by kernel_rfl) (by decide +kernel)
instance : Ent Try.prog 67 := .mk' Try.func67 (by kernel_rfl) (by decide +kernel)
instance : Ent Try.prog 68 := .mk' Try.func68 (by kernel_rfl) (by decide +kernel)
instance : Ent Try.prog 69 := .mk' Try.func69 (by kernel_rfl) (by decide +kernel)
instance : Ent Try.prog 70 := .mk' Try.func70 (by kernel_rfl) (by decide +kernel)
instance : Ent Try.prog 71 := .mk' Try.func71 (by kernel_rfl) (by decide +kernel)
instance : Ent Try.prog 72 := .mk' Try.func72 (by kernel_rfl) (by decide +kernel)
instance : Ent Try.prog 73 := .mk' Try.func73 (by kernel_rfl) (by decide +kernel)
instance : Ent Try.prog 74 := .mk' Try.func74 (by kernel_rfl) (by decide +kernel)
instance : Ent Try.prog 75 := .mk' Try.func75 (by kernel_rfl) (by decide +kernel)
instance : Ent Try.prog 76 := .mk' Try.func76 (by kernel_rfl) (by decide +kernel)
instance : Ent Try.prog 77 := .mk' Try.func77 (by kernel_rfl) (by decide +kernel)
instance : Ent Try.prog 78 := .mk' Try.func78 (by kernel_rfl) (by decide +kernel)
instance : Ent Try.prog 79 := .mk' Try.func79 (by kernel_rfl) (by decide +kernel)
instance : Ent Try.prog 80 := .mk' Try.func80 (by kernel_rfl) (by decide +kernel)
instance : Ent Try.prog 81 := .mk' Try.func81 (by kernel_rfl) (by decide +kernel)
instance : Ent Try.prog 82 := .mk' Try.func82 (by kernel_rfl) (by decide +kernel)
instance : Ent Try.prog 83 := .mk' Try.func83 (by kernel_rfl) (by decide +kernel)
instance : Ent Try.prog 84 := .mk' Try.func84 (by kernel_rfl) (by decide +kernel)
instance : Mixed Try.prog := ⟨by kernel_rfl⟩
end Go.Sl
