/- Lemmas that the law of this claim needs (Ty Z4 Z3 Z6 Z7 ZL Up Z8). No condition. -/
import Derived.Test.YtjpodcmhcenjjaaGreatDoorOta
import Derived.Test.YtjpodcmhcenjjaaGreatDoorOtb
import Derived.Test.YtjpodcmhcenjjaaGreatDoorRows
import Derived.ReadAgain
import Derived.ChangeSame
import Derived.OpenShut
import Derived.RowKit3
import Derived.KernelRfl
import Derived.Test.YtjpodcmhcenjjaaGreatDoorProg
import Derived.Lib.ItoaNum
import Derived.Lib.LaidTab
import Derived.WalkSmall
import Derived.Deep.Draws
import Derived.Lib.Join
import Derived.Sort.Grow
import Derived.Lib.MapLaws
import Derived.Shelf.Strings.Builder1
import Derived.Shelf.Strings.Builder2
import Derived.Shelf.Strings.OnBuilder
import Derived.Shelf.Strings.Trim
import Derived.Shelf.Small.Utf8
import Derived.Shelf.Small.Strs
import Derived.Shelf.Strings.BuilderF
import Derived.Shelf.Strings.BuilderK
import Derived.Shelf.Strings.Search1
import Derived.Shelf.Strings.Prefix
import Derived.Shelf.Strings.Runes
import Derived.Shelf.Strings.AsciiSet
import Derived.Shelf.Unicode.DecodeSlow
import Derived.Lib.ItoaLen
set_option linter.unusedVariables false
set_option linter.unusedSimpArgs false
set_option linter.unusedSectionVars false
set_option maxRecDepth 100000
set_option maxHeartbeats 64000000
open Go.Proofs.Tryz
namespace Go.Proofs.YtjpodcmhcenjjaaGreatDoor
section
open Go Go.VM
@[simp] theorem e8S:prog.cellsOf 3=1:=by kernel_rfl
@[simp] theorem e8T:kN prog 3=some [.int .i64 0]:=by kernel_rfl
@[simp] theorem e8U:prog.cellsOf 4=1:=by kernel_rfl
@[simp] theorem e8V:prog.cellsOf 9=1:=by kernel_rfl
@[simp] theorem e8W:prog.bytesOf 9=16:=by kernel_rfl
@[simp] theorem e5R:prog.cellsOf 24=1:=by kernel_rfl
@[simp] theorem e5S:prog.cellsOf 25=1:=by kernel_rfl
@[simp] theorem e5T:kN prog 25=some [.aD]:=by kernel_rfl
@[simp] theorem e8X:gR prog 25=some 30:=by kernel_rfl
@[simp] theorem e5U:prog.cellsOf 26=1:=by kernel_rfl
@[simp] theorem e8Y:gR prog 26=some 135:=by kernel_rfl
@[simp] theorem e5V:prog.cellsOf 27=1:=by kernel_rfl
@[simp] theorem e8Z:gR prog 27=some 91:=by kernel_rfl
@[simp] theorem e5W:prog.cellsOf 28=1:=by kernel_rfl
@[simp] theorem e5X:kN prog 28=some [.aD]:=by kernel_rfl
@[simp] theorem e9a:gR prog 28=some 45:=by kernel_rfl
@[simp] theorem e5Y:prog.cellsOf 30=7:=by kernel_rfl
@[simp] theorem e5Z:prog.bytesOf 30=128:=by kernel_rfl
@[simp] theorem e6a:kN prog 30=some [.int .i64 0,.str [],.int .i64 0,.aD,.aD,.aD,.aD]:=by kernel_rfl
@[simp] theorem d8r:dJ prog 30=true:=by kernel_rfl
@[simp] theorem e0m:aI prog 30 0=some (0,24):=by kernel_rfl
@[simp] theorem e0n:aI prog 30 1=some (1,9):=by kernel_rfl
@[simp] theorem e0o:aI prog 30 2=some (2,3):=by kernel_rfl
@[simp] theorem e0p:aI prog 30 3=some (3,25):=by kernel_rfl
@[simp] theorem e0q:aI prog 30 4=some (4,26):=by kernel_rfl
@[simp] theorem e0r:aI prog 30 5=some (5,27):=by kernel_rfl
@[simp] theorem e0s:aI prog 30 6=some (6,28):=by kernel_rfl
@[simp] theorem e6b:prog.cellsOf 31=1:=by kernel_rfl
@[simp] theorem e6c:kN prog 31=some [.int .i64 0]:=by kernel_rfl
@[simp] theorem e6d:prog.cellsOf 38=1:=by kernel_rfl
@[simp] theorem e6e:prog.cellsOf 39=1:=by kernel_rfl
@[simp] theorem e6f:kN prog 39=some [.aD]:=by kernel_rfl
@[simp] theorem e9b:gR prog 39=some 9:=by kernel_rfl
@[simp] theorem e6g:prog.cellsOf 40=1:=by kernel_rfl
@[simp] theorem e6h:prog.cellsOf 41=1:=by kernel_rfl
@[simp] theorem e9c:gR prog 41=some 43:=by kernel_rfl
@[simp] theorem e6i:prog.cellsOf 43=4:=by kernel_rfl
@[simp] theorem e6j:prog.bytesOf 43=56:=by kernel_rfl
@[simp] theorem e6k:kN prog 43=some [.int .i64 0,.str [],.int .i64 0,.aD]:=by kernel_rfl
@[simp] theorem d8s:dJ prog 43=true:=by kernel_rfl
@[simp] theorem e0t:aI prog 43 0=some (0,40):=by kernel_rfl
@[simp] theorem e0u:aI prog 43 1=some (1,9):=by kernel_rfl
@[simp] theorem e0v:aI prog 43 2=some (2,3):=by kernel_rfl
@[simp] theorem e0w:aI prog 43 3=some (3,41):=by kernel_rfl
@[simp] theorem e6l:prog.cellsOf 45=9:=by kernel_rfl
@[simp] theorem e6m:prog.bytesOf 45=152:=by kernel_rfl
@[simp] theorem e6n:kN prog 45=some [.int .i64 0,.str [],.aD,.aD,.int .i64 0,.str [],.int .i64 0,.aD,.aD]:=by kernel_rfl
@[simp] theorem d8t:dJ prog 45=true:=by kernel_rfl
@[simp] theorem e0x:aI prog 45 0=some (0,38):=by kernel_rfl
@[simp] theorem e0y:aI prog 45 1=some (1,9):=by kernel_rfl
@[simp] theorem e0z:aI prog 45 2=some (2,28):=by kernel_rfl
@[simp] theorem e0A:aI prog 45 3=some (3,39):=by kernel_rfl
@[simp] theorem e0B:aI prog 45 4=some (4,43):=by kernel_rfl
@[simp] theorem e0C:aI prog 45 5=some (8,41):=by kernel_rfl
@[simp] theorem e6o:prog.cellsOf 51=1:=by kernel_rfl
@[simp] theorem e9d:gR prog 51=some 78:=by kernel_rfl
@[simp] theorem e6p:prog.cellsOf 52=1:=by kernel_rfl
@[simp] theorem e9e:gR prog 52=some 111:=by kernel_rfl
@[simp] theorem e6q:prog.cellsOf 53=1:=by kernel_rfl
@[simp] theorem e9f:gR prog 53=some 114:=by kernel_rfl
@[simp] theorem e6r:prog.cellsOf 54=1:=by kernel_rfl
@[simp] theorem e9g:gR prog 54=some 82:=by kernel_rfl
@[simp] theorem e6s:prog.cellsOf 55=1:=by kernel_rfl
@[simp] theorem e9h:gR prog 55=some 118:=by kernel_rfl
@[simp] theorem e6t:prog.cellsOf 56=1:=by kernel_rfl
@[simp] theorem e9i:gR prog 56=some 70:=by kernel_rfl
@[simp] theorem e6u:prog.cellsOf 58=6:=by kernel_rfl
@[simp] theorem e6v:kN prog 58=some [.aD,.aD,.aD,.aD,.aD,.aD]:=by kernel_rfl
@[simp] theorem d8u:dJ prog 58=true:=by kernel_rfl
@[simp] theorem e0D:aI prog 58 0=some (0,51):=by kernel_rfl
@[simp] theorem e0E:aI prog 58 1=some (1,52):=by kernel_rfl
@[simp] theorem e0F:aI prog 58 2=some (2,53):=by kernel_rfl
@[simp] theorem e0G:aI prog 58 3=some (3,54):=by kernel_rfl
@[simp] theorem e0H:aI prog 58 4=some (4,55):=by kernel_rfl
@[simp] theorem e0I:aI prog 58 5=some (5,56):=by kernel_rfl
@[simp] theorem e6w:prog.cellsOf 63=1:=by kernel_rfl
@[simp] theorem e6x:prog.cellsOf 64=1:=by kernel_rfl
@[simp] theorem e6y:kN prog 64=some [.aD]:=by kernel_rfl
@[simp] theorem e9j:gR prog 64=some 181:=by kernel_rfl
@[simp] theorem e6z:prog.cellsOf 65=1:=by kernel_rfl
@[simp] theorem e9k:gR prog 65=some 161:=by kernel_rfl
@[simp] theorem e6A:prog.cellsOf 66=1:=by kernel_rfl
@[simp] theorem e9l:gR prog 66=some 163:=by kernel_rfl
@[simp] theorem e6B:prog.cellsOf 68=14:=by kernel_rfl
@[simp] theorem e6C:kN prog 68=some [.aD,.aD,.aD,.aD,.int .i64 0,.str [],.aD,.aD,.int .i64 0,.str [],.int .i64 0,.aD,.aD,.aD]:=by kernel_rfl
@[simp] theorem e0J:aI prog 68 0=some (0,39):=by kernel_rfl
@[simp] theorem e0K:aI prog 68 1=some (1,64):=by kernel_rfl
@[simp] theorem e0L:aI prog 68 2=some (2,65):=by kernel_rfl
@[simp] theorem e0M:aI prog 68 3=some (3,66):=by kernel_rfl
@[simp] theorem e0N:aI prog 68 4=some (4,45):=by kernel_rfl
@[simp] theorem e0O:aI prog 68 5=some (13,41):=by kernel_rfl
@[simp] theorem e6D:prog.cellsOf 70=25:=by kernel_rfl
@[simp] theorem e6E:prog.bytesOf 70=456:=by kernel_rfl
@[simp] theorem e6F:kN prog 70=some [.str [],.aD,.int .i64 0,.str [],.int .i64 0,.aD,.aD,.aD,.aD,.int .i64 0,.bool false,.aD,.aD,.aD,.aD,.int .i64 0,.str [],.aD,.aD,.int .i64 0,.str [],.int .i64 0,.aD,.aD,.aD]:=by kernel_rfl
@[simp] theorem d8v:dJ prog 70=true:=by kernel_rfl
@[simp] theorem e0P:aI prog 70 0=some (0,9):=by kernel_rfl
@[simp] theorem e0Q:aI prog 70 1=some (1,39):=by kernel_rfl
@[simp] theorem e0R:aI prog 70 2=some (2,30):=by kernel_rfl
@[simp] theorem e0S:aI prog 70 3=some (9,63):=by kernel_rfl
@[simp] theorem e0T:aI prog 70 4=some (10,4):=by kernel_rfl
@[simp] theorem e0U:aI prog 70 5=some (11,68):=by kernel_rfl
@[simp] theorem e6G:prog.cellsOf 75=1:=by kernel_rfl
@[simp] theorem e6H:kN prog 75=some [.aD]:=by kernel_rfl
@[simp] theorem e9m:gR prog 75=some 179:=by kernel_rfl
@[simp] theorem e6I:prog.cellsOf 76=1:=by kernel_rfl
@[simp] theorem e9n:gR prog 76=some 147:=by kernel_rfl
@[simp] theorem e6J:prog.cellsOf 78=4:=by kernel_rfl
@[simp] theorem e6K:prog.bytesOf 78=88:=by kernel_rfl
@[simp] theorem e6L:kN prog 78=some [.str [],.aD,.aD,.aD]:=by kernel_rfl
@[simp] theorem d8w:dJ prog 78=true:=by kernel_rfl
@[simp] theorem e0V:aI prog 78 0=some (0,9):=by kernel_rfl
@[simp] theorem e0W:aI prog 78 1=some (1,39):=by kernel_rfl
@[simp] theorem e0X:aI prog 78 2=some (2,75):=by kernel_rfl
@[simp] theorem e0Y:aI prog 78 3=some (3,76):=by kernel_rfl
@[simp] theorem e6M:prog.cellsOf 79=1:=by kernel_rfl
@[simp] theorem e6N:prog.cellsOf 80=1:=by kernel_rfl
@[simp] theorem e9o:gR prog 80=some 151:=by kernel_rfl
@[simp] theorem e6O:prog.cellsOf 82=8:=by kernel_rfl
@[simp] theorem e6P:prog.bytesOf 82=128:=by kernel_rfl
@[simp] theorem e6Q:kN prog 82=some [.str [],.str [],.str [],.aD,.int .i64 0,.str [],.int .i64 0,.aD]:=by kernel_rfl
@[simp] theorem d8x:dJ prog 82=true:=by kernel_rfl
@[simp] theorem e0Z:aI prog 82 0=some (0,9):=by kernel_rfl
@[simp] theorem e1a:aI prog 82 1=some (1,9):=by kernel_rfl
@[simp] theorem e1b:aI prog 82 2=some (2,79):=by kernel_rfl
@[simp] theorem e1c:aI prog 82 3=some (3,80):=by kernel_rfl
@[simp] theorem e1d:aI prog 82 4=some (4,43):=by kernel_rfl
@[simp] theorem e6R:prog.cellsOf 91=9:=by kernel_rfl
@[simp] theorem e6S:prog.bytesOf 91=168:=by kernel_rfl
@[simp] theorem e6T:kN prog 91=some [.str [],.aD,.int .i64 0,.str [],.int .i64 0,.aD,.aD,.aD,.aD]:=by kernel_rfl
@[simp] theorem d8y:dJ prog 91=true:=by kernel_rfl
@[simp] theorem e1e:aI prog 91 0=some (0,9):=by kernel_rfl
@[simp] theorem e1f:aI prog 91 1=some (1,39):=by kernel_rfl
@[simp] theorem e1g:aI prog 91 2=some (2,30):=by kernel_rfl
@[simp] theorem e6U:prog.cellsOf 94=1:=by kernel_rfl
@[simp] theorem e6V:prog.cellsOf 96=4:=by kernel_rfl
@[simp] theorem e6W:prog.bytesOf 96=40:=by kernel_rfl
@[simp] theorem e6X:kN prog 96=some [.int .i64 0,.str [],.int .i64 0,.int .i64 0]:=by kernel_rfl
@[simp] theorem d8z:dJ prog 96=true:=by kernel_rfl
@[simp] theorem e1h:aI prog 96 0=some (0,94):=by kernel_rfl
@[simp] theorem e1i:aI prog 96 1=some (1,9):=by kernel_rfl
@[simp] theorem e1j:aI prog 96 2=some (2,3):=by kernel_rfl
@[simp] theorem e1k:aI prog 96 3=some (3,3):=by kernel_rfl
@[simp] theorem e3x:prog.cellsOf 103=1:=by kernel_rfl
@[simp] theorem e6Y:gR prog 103=some 96:=by kernel_rfl
@[simp] theorem e3y:kN prog 105=some [.aD,.int .i64 0,.int .i64 0,.int .i64 0]:=by kernel_rfl
@[simp] theorem d4U:dJ prog 105=true:=by kernel_rfl
@[simp] theorem d8A:aI prog 105 0=some (0,103):=by kernel_rfl
@[simp] theorem d8B:aI prog 105 1=some (1,3):=by kernel_rfl
@[simp] theorem d8C:aI prog 105 2=some (2,31):=by kernel_rfl
@[simp] theorem d8D:aI prog 105 3=some (3,3):=by kernel_rfl
@[simp] theorem e3z:prog.cellsOf 109=1:=by kernel_rfl
@[simp] theorem e6Z:gR prog 109=some 148:=by kernel_rfl
@[simp] theorem e3A:prog.cellsOf 111=3:=by kernel_rfl
@[simp] theorem e3B:prog.bytesOf 111=56:=by kernel_rfl
@[simp] theorem e3C:kN prog 111=some [.str [],.str [],.aD]:=by kernel_rfl
@[simp] theorem d4V:dJ prog 111=true:=by kernel_rfl
@[simp] theorem d8E:aI prog 111 0=some (0,9):=by kernel_rfl
@[simp] theorem d8F:aI prog 111 1=some (1,9):=by kernel_rfl
@[simp] theorem d8G:aI prog 111 2=some (2,109):=by kernel_rfl
@[simp] theorem e3D:prog.cellsOf 114=12:=by kernel_rfl
@[simp] theorem e3E:prog.bytesOf 114=216:=by kernel_rfl
@[simp] theorem e3F:kN prog 114=some [.str [],.int .i64 0,.str [],.aD,.aD,.int .i64 0,.str [],.int .i64 0,.aD,.aD,.aD,.aD]:=by kernel_rfl
@[simp] theorem d4W:dJ prog 114=true:=by kernel_rfl
@[simp] theorem d8H:aI prog 114 0=some (0,9):=by kernel_rfl
@[simp] theorem d8I:aI prog 114 1=some (1,45):=by kernel_rfl
@[simp] theorem d8J:aI prog 114 2=some (10,64):=by kernel_rfl
@[simp] theorem d8K:aI prog 114 3=some (11,56):=by kernel_rfl
@[simp] theorem e3G:prog.cellsOf 118=6:=by kernel_rfl
@[simp] theorem e3H:prog.bytesOf 118=96:=by kernel_rfl
@[simp] theorem e3I:kN prog 118=some [.str [],.aD,.int .i64 0,.str [],.int .i64 0,.aD]:=by kernel_rfl
@[simp] theorem d4X:dJ prog 118=true:=by kernel_rfl
@[simp] theorem d8L:aI prog 118 0=some (0,9):=by kernel_rfl
@[simp] theorem d8M:aI prog 118 1=some (1,75):=by kernel_rfl
@[simp] theorem d8N:aI prog 118 2=some (2,43):=by kernel_rfl
@[simp] theorem e3J:prog.cellsOf 127=2:=by kernel_rfl
@[simp] theorem e3K:kN prog 127=some [.int .i64 0,.int .i64 0]:=by kernel_rfl
@[simp] theorem d4Y:dJ prog 127=true:=by kernel_rfl
@[simp] theorem d8O:aI prog 127 0=some (0,3):=by kernel_rfl
@[simp] theorem d8P:aI prog 127 1=some (1,31):=by kernel_rfl
@[simp] theorem e3L:kN prog 130=some [.aD,.int .i64 0]:=by kernel_rfl
@[simp] theorem d4Z:dJ prog 130=true:=by kernel_rfl
@[simp] theorem d8Q:aI prog 130 0=some (0,103):=by kernel_rfl
@[simp] theorem d8R:aI prog 130 1=some (1,3):=by kernel_rfl
@[simp] theorem e3M:prog.cellsOf 135=10:=by kernel_rfl
@[simp] theorem e3N:kN prog 135=some [.str [],.int .i64 0,.str [],.aD,.aD,.int .i64 0,.str [],.int .i64 0,.aD,.aD]:=by kernel_rfl
@[simp] theorem d5a:dJ prog 135=true:=by kernel_rfl
@[simp] theorem d8S:aI prog 135 0=some (0,9):=by kernel_rfl
@[simp] theorem d8T:aI prog 135 1=some (1,45):=by kernel_rfl
@[simp] theorem e3O:prog.cellsOf 147=3:=by kernel_rfl
@[simp] theorem e3P:prog.bytesOf 147=64:=by kernel_rfl
@[simp] theorem e3Q:kN prog 147=some [.str [],.aD,.aD]:=by kernel_rfl
@[simp] theorem d5b:dJ prog 147=true:=by kernel_rfl
@[simp] theorem d8U:aI prog 147 0=some (0,9):=by kernel_rfl
@[simp] theorem d8V:aI prog 147 1=some (1,39):=by kernel_rfl
@[simp] theorem d8W:aI prog 147 2=some (2,28):=by kernel_rfl
@[simp] theorem e3R:prog.cellsOf 148=10:=by kernel_rfl
@[simp] theorem e3S:kN prog 148=some [.str [],.int .i64 0,.str [],.aD,.aD,.int .i64 0,.str [],.int .i64 0,.aD,.aD]:=by kernel_rfl
@[simp] theorem d5c:dJ prog 148=true:=by kernel_rfl
@[simp] theorem d8X:aI prog 148 0=some (0,9):=by kernel_rfl
@[simp] theorem d8Y:aI prog 148 1=some (1,45):=by kernel_rfl
@[simp] theorem e3T:prog.cellsOf 151=6:=by kernel_rfl
@[simp] theorem e3U:prog.bytesOf 151=96:=by kernel_rfl
@[simp] theorem e3V:kN prog 151=some [.str [],.aD,.int .i64 0,.str [],.int .i64 0,.aD]:=by kernel_rfl
@[simp] theorem d5d:dJ prog 151=true:=by kernel_rfl
@[simp] theorem d8Z:aI prog 151 0=some (0,9):=by kernel_rfl
@[simp] theorem d9a:aI prog 151 1=some (1,39):=by kernel_rfl
@[simp] theorem d9b:aI prog 151 2=some (2,43):=by kernel_rfl
@[simp] theorem e3W:prog.cellsOf 161=2:=by kernel_rfl
@[simp] theorem e3X:prog.bytesOf 161=32:=by kernel_rfl
@[simp] theorem e3Y:kN prog 161=some [.str [],.str []]:=by kernel_rfl
@[simp] theorem d5e:dJ prog 161=true:=by kernel_rfl
@[simp] theorem d9c:aI prog 161 0=some (0,9):=by kernel_rfl
@[simp] theorem d9d:aI prog 161 1=some (1,79):=by kernel_rfl
@[simp] theorem e3Z:prog.cellsOf 163=10:=by kernel_rfl
@[simp] theorem e4a:prog.bytesOf 163=152:=by kernel_rfl
@[simp] theorem e4b:kN prog 163=some [.str [],.aD,.int .i64 0,.str [],.int .i64 0,.aD,.int .i64 0,.str [],.int .i64 0,.aD]:=by kernel_rfl
@[simp] theorem d5f:dJ prog 163=true:=by kernel_rfl
@[simp] theorem d9e:aI prog 163 0=some (0,9):=by kernel_rfl
@[simp] theorem d9f:aI prog 163 1=some (1,75):=by kernel_rfl
@[simp] theorem d9g:aI prog 163 2=some (2,43):=by kernel_rfl
@[simp] theorem d9h:aI prog 163 3=some (6,43):=by kernel_rfl
@[simp] theorem e4c:prog.cellsOf 179=2:=by kernel_rfl
@[simp] theorem e4d:prog.bytesOf 179=32:=by kernel_rfl
@[simp] theorem e4e:kN prog 179=some [.str [],.str []]:=by kernel_rfl
@[simp] theorem d5g:dJ prog 179=true:=by kernel_rfl
@[simp] theorem d9i:aI prog 179 0=some (0,9):=by kernel_rfl
@[simp] theorem d9j:aI prog 179 1=some (1,79):=by kernel_rfl
@[simp] theorem e4f:prog.cellsOf 181=2:=by kernel_rfl
@[simp] theorem e4g:prog.bytesOf 181=32:=by kernel_rfl
@[simp] theorem e4h:kN prog 181=some [.str [],.str []]:=by kernel_rfl
@[simp] theorem d5h:dJ prog 181=true:=by kernel_rfl
@[simp] theorem d9k:aI prog 181 0=some (0,9):=by kernel_rfl
@[simp] theorem d9l:aI prog 181 1=some (1,9):=by kernel_rfl
@[simp] theorem e4i:prog.cellsOf 199=42:=by kernel_rfl
@[simp] theorem e4j:prog.cellsOf 204=1:=by kernel_rfl
@[simp] theorem e4k:kN prog 204=some [.aD]:=by kernel_rfl
@[simp] theorem d5i:dJ prog 204=true:=by kernel_rfl
@[simp] theorem d9m:aI prog 204 0=some (0,103):=by kernel_rfl
@[simp] theorem e7a:gR prog 236=some 40:=by kernel_rfl
@[simp] theorem e4l:prog.cellsOf 239=4:=by kernel_rfl
@[simp] theorem e4m:kN prog 239=some [.int .i64 0,.int .i64 0,.int .i64 0,.str []]:=by kernel_rfl
@[simp] theorem d5j:dJ prog 239=true:=by kernel_rfl
@[simp] theorem d9n:aI prog 239 0=some (0,3):=by kernel_rfl
@[simp] theorem d9o:aI prog 239 1=some (1,3):=by kernel_rfl
@[simp] theorem d9p:aI prog 239 2=some (2,3):=by kernel_rfl
@[simp] theorem d9q:aI prog 239 3=some (3,9):=by kernel_rfl
@[simp] theorem e7b:jK prog 9=true:=by kernel_rfl
@[simp] theorem e4n:jK prog 30=true:=by kernel_rfl
@[simp] theorem e4o:jK prog 40=true:=by kernel_rfl
@[simp] theorem e4p:jK prog 43=true:=by kernel_rfl
@[simp] theorem e4q:jK prog 45=true:=by kernel_rfl
@[simp] theorem e4r:jK prog 70=true:=by kernel_rfl
@[simp] theorem e4s:jK prog 78=true:=by kernel_rfl
@[simp] theorem e4t:jK prog 82=true:=by kernel_rfl
@[simp] theorem e4u:jK prog 91=true:=by kernel_rfl
@[simp] theorem e4v:jK prog 96=true:=by kernel_rfl
@[simp] theorem e1l:jK prog 111=true:=by kernel_rfl
@[simp] theorem e1m:jK prog 114=true:=by kernel_rfl
@[simp] theorem e1n:jK prog 118=true:=by kernel_rfl
@[simp] theorem e1o:jK prog 135=true:=by kernel_rfl
@[simp] theorem e1p:jK prog 147=true:=by kernel_rfl
@[simp] theorem e1q:jK prog 148=true:=by kernel_rfl
@[simp] theorem e1r:jK prog 151=true:=by kernel_rfl
@[simp] theorem e1s:jK prog 161=true:=by kernel_rfl
@[simp] theorem e1t:jK prog 163=true:=by kernel_rfl
@[simp] theorem e1u:jK prog 179=true:=by kernel_rfl
@[simp] theorem e1v:jK prog 181=true:=by kernel_rfl
end
section
open Go Go.VM
variable {G:GT}
theorem wrap64{n:Int}(h: -9223372036854775808<=n/\n<=9223372036854775807):IntKind.i64.wrap n=n:=by unfold IntKind.wrap;simp[IntKind.bits,IntKind.signed];omega
theorem bA{i:Nat}(h:i<9223372036854775807):IntKind.i64.wrap ((i:Int)+1)=((i+1:Nat):Int):=by rw[wrap64 (by omega)];simp
def pO(c:Int):Bool:=decide (97<=c)&&decide (c<=122)
def b5F(c:Int):Bool:=decide (65<=c)&&decide (c<=90)
def b2h(c:Int):Bool:=decide (48<=c)&&decide (c<=57)
def anB(c:Int):Bool:=pO c||b5F c||b2h c
def wdB(c:Int):Bool:=pO c||b2h c||c==95
def sizedB(s:List UInt8):Bool:=decide (1<=s.length)&&decide (s.length<=24)
def qI(p:Int->Bool)(s:List UInt8):Bool:=s.all λc=>p c.toNat
theorem d5k(p:Int->Bool):qI p []=true:=rfl
theorem mB{p:Int->Bool}{s:List UInt8}{i:Nat}{b:Bool}(he:b=qI p (s.drop i))(aF:i<s.length)(hp:p s[i].toNat=true):b=qI p (s.drop (i+1)):=by unfold qI at he;rw[he,g1j aF];simp only[List.all_cons,hp,Bool.true_and,qI]
theorem a1m{p:Int->Bool}{s:List UInt8}{i:Nat}{b:Bool}(he:b=qI p (s.drop i))(aF:i<s.length)(hp:p s[i].toNat=false):b=false:=by unfold qI at he;rw[he,g1j aF];simp only[List.all_cons,hp,Bool.false_and]
theorem a6l{p:Int->Bool}{s:List UInt8}{i:Nat}{b:Bool}(he:b=qI p (s.drop i))(aF: ¬i<s.length):b=true:=by
 rw[he,List.drop_of_length_le (by omega)]
 rfl
theorem d5l{α:Type}{f:α->Bool}{l:List α}{i:Nat}{b:Bool}(he:b=(l.drop i).any f)(aF:i<l.length)(hp:f l[i]=false):b=(l.drop (i+1)).any f:=by rw[he,g1j aF];simp only[List.any_cons,hp,Bool.false_or]
theorem d5m{α:Type}{f:α->Bool}{l:List α}{i:Nat}{b:Bool}(he:b=(l.drop i).any f)(aF:i<l.length)(hp:f l[i]=true):b=true:=by rw[he,g1j aF];simp only[List.any_cons,hp,Bool.true_or]
theorem e1w{α:Type}{f:α->Bool}{l:List α}{i:Nat}{b:Bool}(he:b=(l.drop i).any f)(aF: ¬i<l.length):b=false:=by
 rw[he,List.drop_of_length_le (by omega)]
 rfl
theorem d5n{α:Type}{f:α->Bool}{l:List α}{i:Nat}{b:Bool}(he:b=(l.drop i).all f)(aF:i<l.length)(hp:f l[i]=true):b=(l.drop (i+1)).all f:=by rw[he,g1j aF];simp only[List.all_cons,hp,Bool.true_and]
theorem d5o{α:Type}{f:α->Bool}{l:List α}{i:Nat}{b:Bool}(he:b=(l.drop i).all f)(aF:i<l.length)(hp:f l[i]=false):b=false:=by rw[he,g1j aF];simp only[List.all_cons,hp,Bool.false_and]
theorem e1x{α:Type}{f:α->Bool}{l:List α}{i:Nat}{b:Bool}(he:b=(l.drop i).all f)(aF: ¬i<l.length):b=true:=by
 rw[he,List.drop_of_length_le (by omega)]
 rfl
theorem a2B:VM.Enters prog 266:=.mk func266 rfl
theorem a6m:VM.Enters prog 267:=.mk func267 rfl
theorem a8t:VM.Enters prog 268:=.mk func268 rfl
theorem rU:VM.Enters prog 285:=.mk func285 rfl
theorem xM:VM.Enters prog 286:=.mk func286 rfl
theorem a1K:VM.Enters prog 287:=.mk func287 rfl
theorem a6n:VM.Enters prog 252:=.mk func252 rfl
theorem a1L:VM.Enters prog 253:=.mk func253 rfl
theorem c8p:VM.Enters prog 254:=.mk func254 rfl
theorem a4v(c:Int):CS prog G 266 [.int .u8 c] (.d (.bool (pO c))) none:=by refine CS.aX func266 rfl ntmps266 rfl ?_;by_cases h:97<=c<;>simp[pO,h]
theorem a9q(c:Int):CS prog G 267 [.int .u8 c] (.d (.bool (b2h c))) none:=by refine CS.aX func267 rfl ntmps267 rfl ?_;by_cases h:48<=c<;>simp[b2h,h]
theorem b0z(c:Int):CS prog G 268 [.int .u8 c] (.d (.bool (b5F c))) none:=by refine CS.aX func268 rfl ntmps268 rfl ?_;by_cases h:65<=c<;>simp[b5F,h]
theorem tW(c:Int):CS prog G 285 [.int .u8 c] (.d (.bool (pO c))) none:=by refine CS.aX func285 rfl ntmps285 rfl ?_;by_cases h:97<=c<;>simp[pO,h]
theorem a0i(c:Int):CS prog G 286 [.int .u8 c] (.d (.bool (b2h c))) none:=by refine CS.aX func286 rfl ntmps286 rfl ?_;by_cases h:48<=c<;>simp[b2h,h]
theorem a3f(c:Int):CS prog G 287 [.int .u8 c] (.d (.bool (b5F c))) none:=by refine CS.aX func287 rfl ntmps287 rfl ?_;by_cases h:65<=c<;>simp[b5F,h]
theorem a9r(s:List UInt8):CS prog G 252 [.str s] (.d (.bool (sizedB s))) none:=by refine CS.aX func252 rfl ntmps252 rfl ?_;by_cases h:1<=s.length<;>simp[sizedB,h]
theorem a2C(s:List UInt8)(hs:s.length<=1000000):CS prog G 253 [.str s] (.d (.bool (qI anB s))) none:=by
 refine CS.aX func253 rfl ntmps253 rfl ?_;simp;refine SW.eX (ι:={i:Nat//i<=s.length/\qI anB s=qI anB (s.drop i)}) (λi=>[(3,.d (.int .i64 i.1))]) (λ_=>[]) (λ_=>[]) (λi=>s.length-i.1) ⟨0,by simp⟩ (by simp) ?_;rintro⟨i,hi,he⟩;by_cases aF:i<s.length
 .simp[aF];refine aC.mk a2B (a4v _) ?_;have hw:=bA (show i<9223372036854775807 by omega);cases h1:pO s[i].toNat
  .simp[aF];refine aC.mk a8t (b0z _) ?_;cases h2:b5F s[i].toNat
   .simp[aF];refine aC.mk a6m (a9q _) ?_;cases h3:b2h s[i].toNat
    .simp[aF];exact a1m he aF (by simp[anB,h1,h2,h3])
    .simp[aF];exact bC.mk ⟨i+1,aF,mB he aF (by simp[anB,h3])⟩ (by simp[hw]) (by simp;omega)
   .simp[aF];exact bC.mk ⟨i+1,aF,mB he aF (by simp[anB,h2])⟩ (by simp[hw]) (by simp;omega)
  .simp[aF];exact bC.mk ⟨i+1,aF,mB he aF (by simp[anB,h1])⟩ (by simp[hw]) (by simp;omega)
 .simp[aF];exact a6l he aF
def a6o(s:List UInt8):Bool:=qI wdB s&&(match s with|[]=>true|c::_=>pO c.toNat)
theorem d1S(s:List UInt8)(hs:s.length<=1000000):CS prog G 254 [.str s] (.d (.bool (a6o s))) none:=by
 refine CS.aX func254 rfl ntmps254 rfl ?_;simp;refine SW.eX (ι:={i:Nat//i<=s.length/\(0<i->qI wdB s=qI wdB (s.drop i)/\a6o s=qI wdB s)}) (λi=>[(3,.d (.int .i64 i.1))]) (λ_=>[]) (λ_=>[]) (λi=>s.length-i.1) ⟨0,by simp⟩ (by simp) ?_;rintro⟨i,hi,he⟩;by_cases aF:i<s.length
 .have hnx:wdB s[i].toNat=true->(i=0->pO s[i].toNat=true)->(0<i+1->qI wdB s=qI wdB (s.drop (i+1))/\a6o s=qI wdB s):=λhp h0 _=>by
    rcases Nat.eq_zero_or_pos i with hz|hz
    .subst hz;refine⟨mB (i:=0) rfl aF hp,?_⟩;cases s with
     |nil=>rfl
     |cons c s=>have:=h0 rfl;simp at this;simp[a6o,this]
    .exact⟨mB (he hz).1 aF hp,(he hz).2⟩
  have hw:=bA (show i<9223372036854775807 by omega);have mU:wdB s[i].toNat=false->a6o s=false:=λhp=>by
   rcases Nat.eq_zero_or_pos i with hz|hz
   .subst hz;have:=a1m (b:=qI wdB s) (i:=0) rfl aF hp;simp[a6o,this]
   .rw[(he hz).2];exact a1m (he hz).1 aF hp
  simp[aF];refine aC.mk a2B (a4v _) ?_;cases h1:pO s[i].toNat
  .rcases Nat.eq_zero_or_pos i with hz|hz
   .subst hz;simp[aF];cases s with
    |nil=>simp at aF
    |cons c s=>simp at h1;simp[a6o,h1]
   .have hz': ¬i=0:=by omega
    simp[aF,hz'];refine aC.mk a6m (a9q _) ?_;cases h3:b2h s[i].toNat
    .by_cases h4:s[i].toNat=95
     .simp[aF,h4];exact bC.mk ⟨i+1,aF,hnx (by simp[wdB,h4]) (λh=>absurd h hz')⟩ (by simp[hw]) (by simp;omega)
     .have h5: ¬((s[i].toNat:Int)=95):=by omega
      simp[aF,h4,h5];exact mU (by simp[wdB,h1,h3,h5])
    .simp[aF];exact bC.mk ⟨i+1,aF,hnx (by simp[wdB,h3]) (λh=>absurd h hz')⟩ (by simp[hw]) (by simp;omega)
  .simp[aF];exact bC.mk ⟨i+1,aF,hnx (by simp[wdB,h1]) (λ_=>h1)⟩ (by simp[hw]) (by simp;omega)
 .simp[aF];rcases Nat.eq_zero_or_pos i with hz|hz
  .subst hz;have:s=[]:=by simpa using aF
   subst this
   rfl
  .rw[(he hz).2];exact a6l (he hz).1 aF
open Go Go.VM
variable {G:GT}
def kwL:List (List UInt8):=[[97,110,100],[97,115,115,117,109,101],[98,111,111,108],[98,111,117,110,100],[99,97,115,101],[99,101,108,108],[99,108,97,115,115],[100,97,116,97],[100,101,102],[100,105,118],[101,108,115,101],[101,110,100],[102,97,108,115,101],[102,111,114,97,108,108],[102,117,110],[103,101,116],[105,102],[105,110],[105,110,115,116],[105,110,116],[105,110,118,97,114,105,97,110,116],[108,101,116],[109,97,116,99,104],[109,101,97,115,117,114,101],[109,101,116,114,105,99],[109,111,100],[109,117],[110,101,119],[110,111,116],[111,102],[111,114],[113,117,97,108],[114,101,102,108,101,99,116],[115,101,116],[116,104,101,110],[116,114,117,101],[117,115,101],[118],[118,97,108],[116,97,103],[119,104,101,114,101],[119,105,116,104]]
def aJ(s:List UInt8):Bool:=kwL.any λk=>decide (k=s)
def eK:List D:=kwL.map D.str
theorem zS:VM.Enters prog 167:=.mk func167 rfl
theorem a0U(hG:G 1=some eK)(s:List UInt8):CS prog G 167 [.str s] (.d (.bool (aJ s))) none:=by
 refine CS.aX func167 rfl ntmps167 rfl ?_;have hlen:eK.length=42:=rfl;have f0r:List.take 42 eK=eK:=by rw[<-hlen,List.take_length]
 simp[hG,hlen,f0r];refine SW.eX (ι:={i:Nat//i<=42/\aJ s=(kwL.drop i).any λk=>decide (k=s)}) (λi=>[(6,.d (.int .i64 i.1))]) (λ_=>[]) (λ_=>[]) (λi=>42-i.1) ⟨0,by simp[aJ]⟩ (by simp) ?_;rintro⟨i,hi,he⟩;by_cases aF:i<42
 .have hl:i<kwL.length:=aF;have a5D:eK[i]? =some (.str kwL[i]):=by simp[eK,hl]
  have e4w:eK[i]'(by rw[hlen];exact aF)=.str kwL[i]:=by simp[eK]
  by_cases hk:kwL[i]=s
  .simp[aF,hlen,a5D,e4w,hk];exact d5m he hl (by simp[hk])
  .simp[aF,hlen,a5D,e4w,hk];exact bC.mk ⟨i+1,aF,d5l he hl (by simp[hk])⟩ (by simp[bA (show i<9223372036854775807 by omega)]) (by simp;omega)
 .simp[aF];exact e1w he aF
def d5q(p:Int->Bool)(s:List UInt8):Bool:=match s with
 |[]=>false
 |c::_=>p c.toNat
theorem wO{p:Int->Bool}{s:List UInt8}(h:0<s.length):d5q p s=p s[0].toNat:=by
 cases s with
 |nil=>simp at h
 |cons c s=>rfl
def vB(s:List UInt8):Bool:=sizedB s&&d5q pO s&& !aJ s&&qI wdB s
theorem c8q:VM.Enters prog 250:=.mk func250 rfl
theorem d1T(hG:G 1=some eK)(s:List UInt8):CS prog G 250 [.str s] (.d (.bool (vB s))) none:=by
 refine CS.aX func250 rfl ntmps250 rfl ?_;simp;refine aC.mk a6n (a9r _) ?_;cases hz:sizedB s
 .simp[vB,hz]
 .have hl:1<=s.length/\s.length<=24:=by simpa[sizedB]using hz
  have h0:0<s.length:=by omega
  simp[h0];refine aC.mk a2B (a4v _) ?_;cases h1:pO s[0].toNat
  .simp[vB,wO h0,h1]
  .simp;refine aC.mk zS (a0U hG _) ?_;cases h2:aJ s
   .simp;have hb:vB s=qI wdB s:=by simp[vB,hz,wO h0,h1,h2]
    refine SW.eX (ι:={i:Nat//1<=i/\i<=s.length/\qI wdB s=qI wdB (s.drop i)}) (λi=>[(3,.d (.int .i64 i.1))]) (λ_=>[]) (λ_=>[]) (λi=>s.length-i.1) ⟨1,g1m _,hl.1,mB (i:=0) rfl h0 (by simp[wdB,h1])⟩ (by simp) ?_;rintro⟨i,hi1,hi,he⟩;by_cases aF:i<s.length
    .have hw:=bA (show i<9223372036854775807 by omega);simp[aF];refine aC.mk a2B (a4v _) ?_;cases h1:pO s[i].toNat
     .simp[aF];refine aC.mk a6m (a9q _) ?_;cases h3:b2h s[i].toNat
      .by_cases h4:s[i].toNat=95
       .simp[aF,h4];exact bC.mk ⟨i+1,by omega,aF,mB he aF (by simp[wdB,h4])⟩ (by simp[hw]) (by simp;omega)
       .simp[aF,h4];rw[hb];exact a1m he aF (by simp[wdB,h1,h3];omega)
      .simp[aF];exact bC.mk ⟨i+1,by omega,aF,mB he aF (by simp[wdB,h3])⟩ (by simp[hw]) (by simp;omega)
     .simp[aF];exact bC.mk ⟨i+1,by omega,aF,mB he aF (by simp[wdB,h1])⟩ (by simp[hw]) (by simp;omega)
    .simp[aF];rw[hb];exact a6l he aF
   .simp[vB,h2]
theorem c4P:VM.Enters prog 251:=.mk func251 rfl
def mC(s:List UInt8):Bool:=sizedB s&&d5q b5F s&&qI anB s&& !decide (s=[73,110,116])&& !decide (s=[66,111,111,108])&& !decide (s=[67,101,108,108])&& !decide (s=[70,117,110])
theorem c8r(s:List UInt8):CS prog G 251 [.str s] (.d (.bool (mC s))) none:=by
 refine CS.aX func251 rfl ntmps251 rfl ?_;simp;refine aC.mk a6n (a9r _) ?_;cases hz:sizedB s
 .simp[mC,hz]
 .have hl:1<=s.length/\s.length<=24:=by simpa[sizedB]using hz
  have h0:0<s.length:=by omega
  simp[h0];refine aC.mk a8t (b0z _) ?_;cases h1:b5F s[0].toNat
  .simp[mC,wO h0,h1]
  .simp;refine aC.mk a1L (a2C _ (by omega)) ?_;cases h2:qI anB s
   .simp[mC,h2]
   .by_cases e1:s=[73,110,116]
    .simp[mC,e1]
    by_cases e2:s=[66,111,111,108]
    .simp[mC,e2]
    by_cases e3:s=[67,101,108,108]
    .simp[mC,e3]
    simp[mC,hz,wO h0,h1,h2,e1,e2,e3]
def gH:List UInt8->List UInt8×List UInt8×Bool
 |[]=>([],[],false)
 |c::r=>if c.toNat=46 then([],r,true) else(c::(gH r).1,(gH r).2)
theorem b9S:VM.Enters prog 249:=.mk func249 rfl
theorem d0n:∀(s:List UInt8) (i:Nat),(∀j (h:j<s.length),j<i->s[j].toNat≠46)->i<=s.length->gH s=(s.take i++(gH (s.drop i)).1,(gH (s.drop i)).2)
 |s,0,_,_=>by simp
 |[],i+1,_,h=>by simp at h
 |c::r,i+1,hj,h=>by have h0:=hj 0 (by simp) (by omega);simp at h0 h;have ih:=d0n r i (λj h hji=>by have:=hj (j+1) (by simp;omega) (by omega);simpa using this) h;simp[gH,h0,ih]
theorem c4Q(s:List UInt8)(hs:s.length<=1000000):CS prog G 249 [.str s] (.cI [.str (gH s).1,.str (gH s).2.1,.bool (gH s).2.2]) none:=by
 refine CS.aX func249 rfl ntmps249 rfl ?_;simp;refine SW.eX (ι:={i:Nat//i<=s.length/\∀j (h:j<s.length),j<i->s[j].toNat≠46}) (λi=>[(5,.d (.int .i64 i.1))]) (λ_=>[]) (λ_=>[]) (λi=>s.length-i.1) ⟨0,by simp⟩ (by simp) ?_;rintro⟨i,hi,he⟩;have d1U:=d0n s i he hi;by_cases aF:i<s.length
 .by_cases h4:s[i].toNat=46
  .have hw:IntKind.i64.wrap ((i:Int)+1)=((i+1:Nat):Int):=bA (by omega);rw[g1j aF]at d1U;simp only[gH,h4,if_true]at d1U;have h1:i+1<=s.length:=aF;simp[aF,h4,d1U,hw,hi,h1];exact kV.mk (by kernel_rfl)
  .simp[aF,h4];refine bC.mk ⟨i+1,aF,λj h hj=>?_⟩ (by simp[bA (show i<9223372036854775807 by omega)]) (by simp;omega);by_cases hji:j=i
   .subst hji;exact h4
   .exact he j h (by omega)
 .have:i=s.length:=by omega
  subst this;rw[List.drop_length]at d1U;simp[gH]at d1U;simp[aF,d1U]
open Go Go.VM
variable {G:GT}
def jM:List UInt8->List (List UInt8)
 |[]=>[[]]
 |c::r=>if c.toNat=46 then []::jM r else match jM r with
  |p::ps=>(c::p)::ps
  |[]=>[[c]]
theorem a4w:∀s,jM s=(gH s).1::(if (gH s).2.2=true then jM (gH s).2.1 else [])
 |[]=>rfl
 |c::r=>by
  by_cases hc:c.toNat=46
  .simp[jM,gH,hc]
  .simp only[jM,gH,hc,if_false];rw[a4w r]
theorem d0o:∀s,(gH s).2.2=true->(gH s).2.1.length<s.length
 |[],h=>by simp[gH]at h
 |c::r,h=>by
  unfold gH at h|-;split
  .simp
  .rename_i hc;simp[hc]at h;have:=d0o r h;simp;omega
theorem c4R:∀s,(gH s).1.length<=s.length
 |[]=>by simp[gH]
 |c::r=>by
  unfold gH;split
  .simp
  .simp;exact c4R r
theorem b2i:∀s,(gH s).2.1.length<=s.length
 |[]=>by simp[gH]
 |c::r=>by
  unfold gH;split
  .simp
  .simp;have:=b2i r;omega
def vC(p:List UInt8):Bool:=sizedB p&&(qI anB p||a6o p)
def rJ(s:List UInt8):Bool:=decide (s.length<=120)&&(match jM s with
 |[]=>false
 |p::ps=>(vB p||mC p||(decide (p=[118])&& !ps.isEmpty))&&ps.all vC)
def eZ(b:Bool):Int:=if b then 0 else 3
theorem d1V(s:List UInt8):rJ s=(decide (s.length<=120)&&((vB (gH s).1||mC (gH s).1||(decide ((gH s).1=[118])&&(gH s).2.2))&&(if (gH s).2.2=true then(jM (gH s).2.1).all vC else true))):=by
 unfold rJ;rw[a4w s];cases hm:(gH s).2.2
 .simp
 .have:(jM (gH s).2.1).isEmpty=false:=by rw[a4w];rfl
  simp[this]
theorem c8s:VM.Enters prog 241:=.mk func241 rfl
theorem d1W(hG:G 1=some eK)(s:List UInt8):CS prog G 241 [.str s] (.d (.int .i64 (eZ (rJ s)))) none:=by
 refine CS.aX func241 rfl ntmps241 rfl ?_;by_cases hl:120<s.length
 .have: ¬s.length<=120:=by omega
  simp[hl,rJ,this,eZ]
 .have hl':s.length<=120:=by omega
  simp[hl];refine aC.mk b9S (c4Q _ (by omega)) ?_;simp;refine aC.mk c8q (d1T hG _) ?_;have b9T:=d1V s;simp only[hl',decide_true,Bool.true_and]at b9T;have b5G:(vB (gH s).1||mC (gH s).1||(decide ((gH s).1=[118])&&(gH s).2.2))=false->rJ s=false:=λh=>by rw[b9T,h];rfl
  have hgo:(vB (gH s).1||mC (gH s).1||(decide ((gH s).1=[118])&&(gH s).2.2))=true->rJ s=if (gH s).2.2=true then(jM (gH s).2.1).all vC else true:=λh=>by rw[b9T,h];rfl
  cases h1:vB (gH s).1;rotate_left;simp
  replace hgo:=hgo (by simp[h1])
  rotate_left;simp;refine aC.mk c4P (c8r _) ?_;cases h2:mC (gH s).1;rotate_left;simp
  replace hgo:=hgo (by simp[h1,h2])
  rotate_left 2;by_cases h3:(gH s).1=[118];rotate_left
  .simp[h3];rw[b5G (by rw[h1,h2];simp[h3])]
   rfl
  rotate_left 2;cases h4:(gH s).2.2
  .simp[h3,h4];rw[b5G (by rw[h1,h2];simp[h3,h4])]
   rfl
  simp[h3,h4]
  replace hgo:=hgo (by rw[h1,h2];simp[h3,h4])
  all_goals
   refine SW.eX (ι:={x:List UInt8×Bool//x.1.length<=120/\rJ s=if x.2=true then(jM x.1).all vC else true}) (λx=>[(4,.d (.str x.1.1)),(5,.d (.bool x.1.2))]) (λ_=>[]) (λ_=>[]) (λx=>if x.1.2=true then x.1.1.length+1 else 0) ⟨((gH s).2.1,(gH s).2.2),by have:=b2i s;simp;omega,hgo⟩ (by simp[*]) ?_;rintro⟨⟨r,m⟩,hr,he⟩;cases m
   .simp;rw[he]
    rfl
   .simp at hr he;simp;refine aC.mk b9S (c4Q _ (by omega)) ?_;have hlen:=c4R r;simp;refine aC.mk a6n (a9r _) ?_;have dR:rJ s=(vC (gH r).1&&(if (gH r).2.2=true then(jM (gH r).2.1).all vC else true)):=by rw[he,a4w r];cases (gH r).2.2<;>simp
    have hnx:vC (gH r).1=true->rJ s=(if (gH r).2.2=true then(jM (gH r).2.1).all vC else true):=λhp=>by rw[dR,hp];rfl
    have hm:(if (gH r).2.2=true then(gH r).2.1.length+1 else 0)<r.length+1:=by
     cases hm:(gH r).2.2
     .simp
     .have:=d0o r hm;simp;exact this
    have gD:(gH r).2.1.length<=120:=by have:=b2i r;omega
    have tS:vC (gH r).1=false->rJ s=false:=λhp=>by rw[dR,hp];rfl
    cases g1:sizedB (gH r).1
    .simp;rw[tS (by simp[vC,g1])]
     rfl
    .simp;refine aC.mk a1L (a2C _ (by omega)) ?_;cases g2:qI anB (gH r).1
     .simp;refine aC.mk c8p (d1S _ (by omega)) ?_;cases g3:a6o (gH r).1
      .simp;rw[tS (by simp[vC,g1,g2,g3])]
       rfl
      .simp;exact bC.mk ⟨((gH r).2.1,(gH r).2.2),gD,hnx (by simp[vC,g1,g3])⟩ (by simp) (by simpa using hm)
     .simp;exact bC.mk ⟨((gH r).2.1,(gH r).2.2),gD,hnx (by simp[vC,g1,g2])⟩ (by simp) (by simpa using hm)
open Go Go.VM
variable {G:GT}
def strs(l:List (List UInt8)):List (List D):=l.map λs=>[.str s]
theorem a6p(l:List (List UInt8)):(strs l).length=l.length:=by simp[strs]
theorem d1X{l:List (List UInt8)}{i:Nat}(h:i<(strs l).length):(strs l)[i]=[.str (l[i]'(by rw[<-a6p l];exact h))]:=by simp[strs]
theorem d5r(l:List (List UInt8)):(∀x,x∈strs l->x.length=1)=True:=by simp[strs]
theorem d5s(l:List (List UInt8))(s:List UInt8):strs (l++[s])=strs l++[[.str s]]:=by simp[strs]
attribute [simp] a6p d1X d5r d5s
theorem b5H{l:List (List UInt8)}{i:Nat}(h:i<l.length):(strs l)[i]? =some [.str l[i]]:=by simp[strs,h]
def a6q(s:List UInt8):List (List UInt8)->Nat->Int
 |[],_=> -1
 |k::r,i=>if k=s then i else a6q s r (i+1)
theorem c8t{s:List UInt8}{l:List (List UInt8)}{i j:Nat}(h:i<l.length):a6q s (l.drop i) j=if l[i]=s then(j:Int) else a6q s (l.drop (i+1)) (j+1):=by
 rw[g1j h]
 rfl
theorem b9U(s:List UInt8):∀(l:List (List UInt8)) (i:Nat),decide (0<=a6q s l i)=l.any λk=>decide (k=s)
 |[],i=>by simp[a6q]
 |k::r,i=>by
  unfold a6q;by_cases h:k=s
  .simp[h]
  .simp[h,b9U s r]
theorem c4S:VM.Enters prog 193:=.mk func193 rfl
theorem c8u(l:List (List UInt8))(s:List UInt8)(hl:l.length<=1000000):CS prog G 193 [.sl (strs l),.str s] (.d (.int .i64 (a6q s l 0))) none:=by
 refine CS.aX func193 rfl ntmps193 rfl ?_;simp[a6p];refine SW.eX (ι:={i:Nat//i<=l.length/\a6q s l 0=a6q s (l.drop i) i}) (λi=>[(8,.d (.int .i64 i.1))]) (λ_=>[]) (λ_=>[]) (λi=>l.length-i.1) ⟨0,by simp⟩ (by simp) ?_;rintro⟨i,hi,he⟩;by_cases aF:i<l.length
 .have hg:=b5H aF;rw[c8t aF]at he;by_cases hk:l[i]=s
  .simp[aF,a6p,hg,hk];rw[if_pos hk]at he;rw[he]
  .simp[aF,a6p,hg,hk];rw[if_neg hk]at he;exact bC.mk ⟨i+1,aF,he⟩ (by simp[bA (show i<9223372036854775807 by omega)]) (by simp;omega)
 .simp[aF];rw[he,List.drop_of_length_le (by omega)]
  rfl
theorem b4i:VM.Enters prog 194:=.mk func194 rfl
theorem b5I:CS prog G 194 [] (.d (.sl (strs kwL))) none:=by refine CS.aX func194 rfl ntmps194 rfl ?_;simp[show List.range 42=[0,1,2,3,4,5,6,7,8,9,10,11,12,13,14,15,16,17,18,19,20,21,22,23,24,25,26,27,28,29,30,31,32,33,34,35,36,37,38,39,40,41] from rfl];simp[strs,kwL]
theorem a1M:VM.Enters prog 181:=.mk func181 rfl
theorem a3g(s:List UInt8):CS prog G 181 [.str s] (.d (.bool (aJ s))) none:=by refine CS.aX func181 rfl ntmps181 rfl ?_;simp;refine aC.mk b4i b5I ?_;simp;refine aC.mk c4S (c8u kwL s (by decide)) ?_;have:=b9U s kwL 0;simp;simp[aJ, <- this]
theorem c1L:VM.Enters prog 278:=.mk func278 rfl
theorem c4T(s:List UInt8):CS prog G 278 [.str s] (.d (.int .i64 (eZ (vB s)))) none:=by
 refine CS.aX func278 rfl ntmps278 rfl ?_;by_cases hl1:s.length<1
 .have:sizedB s=false:=by simp[sizedB];omega
  simp[hl1,vB,this,eZ]
 by_cases hl2:24<s.length
 .have:sizedB s=false:=by simp[sizedB];omega
  simp[hl1,hl2,vB,this,eZ]
 have hz:sizedB s=true:=by simp[sizedB];omega
 have h0:0<s.length:=by omega
 simp[hl1,hl2,h0];refine aC.mk rU (tW _) ?_;cases h1:pO s[0].toNat
 .simp[vB,wO h0,h1,eZ]
 simp;refine aC.mk a1M (a3g _) ?_;cases h2:aJ s
 .simp;have hb:vB s=qI wdB s:=by simp[vB,hz,wO h0,h1,h2]
  refine SW.eX (ι:={i:Nat//i<=s.length/\qI wdB s=qI wdB (s.drop i)}) (λi=>[(24,.d (.int .i64 i.1))]) (λ_=>[]) (λ_=>[]) (λi=>s.length-i.1) ⟨0,by simp⟩ (by simp) ?_;rintro⟨i,hi,he⟩;by_cases aF:i<s.length
  .have hw:=bA (show i<9223372036854775807 by omega);simp[aF];refine aC.mk rU (tW _) ?_;cases h1:pO s[i].toNat
   .simp[aF];refine aC.mk xM (a0i _) ?_;cases h3:b2h s[i].toNat
    .by_cases h4:s[i].toNat=95
     .simp[aF,h4];exact bC.mk ⟨i+1,aF,mB he aF (by simp[wdB,h4])⟩ (by simp[hw]) (by simp;omega)
     .simp[aF,h4];rw[hb,a1m he aF (by simp[wdB,h1,h3];omega)]
      rfl
    .simp[aF];exact bC.mk ⟨i+1,aF,mB he aF (by simp[wdB,h3])⟩ (by simp[hw]) (by simp;omega)
   .simp[aF];exact bC.mk ⟨i+1,aF,mB he aF (by simp[wdB,h1])⟩ (by simp[hw]) (by simp;omega)
  .simp[aF];rw[hb,a6l he aF]
   rfl
 .simp[vB,h2,eZ]
theorem c1M:VM.Enters prog 279:=.mk func279 rfl
theorem c4U(s:List UInt8):CS prog G 279 [.str s] (.d (.int .i64 (eZ (mC s)))) none:=by
 refine CS.aX func279 rfl ntmps279 rfl ?_;by_cases hl1:s.length<1
 .have:sizedB s=false:=by simp[sizedB];omega
  simp[hl1,mC,this,eZ]
 by_cases hl2:24<s.length
 .have:sizedB s=false:=by simp[sizedB];omega
  simp[hl1,hl2,mC,this,eZ]
 have hz:sizedB s=true:=by simp[sizedB];omega
 have h0:0<s.length:=by omega
 simp[hl1,hl2,h0];refine aC.mk a1K (a3f _) ?_;cases h1:b5F s[0].toNat
 .simp[mC,wO h0,h1,eZ]
 by_cases e1:s=[73,110,116]
 .simp[mC,e1,eZ]
 by_cases e2:s=[66,111,111,108]
 .simp[mC,e2,eZ]
 by_cases e3:s=[67,101,108,108]
 .simp[mC,e3,eZ]
 by_cases e4:s=[70,117,110]
 .simp[mC,e4,eZ]
 simp[e1,e2,e3,e4];have hb:mC s=qI anB s:=by simp[mC,hz,wO h0,h1,e1,e2,e3,e4]
 refine SW.eX (ι:={i:Nat//i<=s.length/\qI anB s=qI anB (s.drop i)}) (λi=>[(36,.d (.int .i64 i.1))]) (λ_=>[]) (λ_=>[]) (λi=>s.length-i.1) ⟨0,by simp⟩ (by simp) ?_;rintro⟨i,hi,he⟩;by_cases aF:i<s.length
 .have hw:=bA (show i<9223372036854775807 by omega);simp[aF];refine aC.mk rU (tW _) ?_;cases h1:pO s[i].toNat
  .simp[aF];refine aC.mk a1K (a3f _) ?_;cases h2:b5F s[i].toNat
   .simp[aF];refine aC.mk xM (a0i _) ?_;cases h3:b2h s[i].toNat
    .simp[aF];rw[hb,a1m he aF (by simp[anB,h1,h2,h3])]
     rfl
    .simp[aF];exact bC.mk ⟨i+1,aF,mB he aF (by simp[anB,h3])⟩ (by simp[hw]) (by simp;omega)
   .simp[aF];exact bC.mk ⟨i+1,aF,mB he aF (by simp[anB,h2])⟩ (by simp[hw]) (by simp;omega)
  .simp[aF];exact bC.mk ⟨i+1,aF,mB he aF (by simp[anB,h1])⟩ (by simp[hw]) (by simp;omega)
 .simp[aF];rw[hb,a6l he aF]
  rfl
end
end Go.Proofs.YtjpodcmhcenjjaaGreatDoor
section
namespace Go.VM
open Go Go.RowKit Go.ChangeShapes Go.WideShapes
mutual
def flat {H:Type}:DataW H->List D
 | .lit (.int k n)=>[.int k n]
 | .lit (.bool b)=>[.bool b]
 | .lit (.string s)=>[.str s]
 | .nil=>[.sl []]
 | .slice es _=>[.sl (a0j es)]
 | .agg ps=>xN ps
 |_=>[]
def a0j {H:Type}:List (DataW H)->List (List D)
 |[]=>[]
 |d::r=>flat d::a0j r
def xN {H:Type}:List (DataW H)->List D
 |[]=>[]
 |d::r=>flat d++xN r
end
theorem b3i{H:Type}:∀l:List (DataW H),a0j l=l.map flat
 |[]=>by simp[a0j]
 |d::r=>by simp[a0j,b3i r]
theorem b5J{H:Type}:∀l:List (DataW H),xN l=(l.map flat).flatten
 |[]=>by simp[xN]
 |d::r=>by simp[xN,b5J r]
inductive a2D (P:Program):TypeId->List D->Prop
 |bool {t:TypeId} {b:Bool}:P.underlying t=some .bool->a2D P t [.bool b]
 |int {t:TypeId} {k:IntKind} {n:Int}:P.underlying t=some (.int k)->(Lit.int k n).wf=true->a2D P t [.int k n]
 |str {t:TypeId} {s:List UInt8}:P.underlying t=some .string->s.length<=maxLen->a2D P t [.str s]
 |sl {t e:TypeId} {es:List (List D)}:P.underlying t=some (.slice e)->es.length<=maxLen->(∀x∈es,a2D P e x)->a2D P t [.sl es]
 |struct {t:TypeId} {fs:Array Field} {ds:List D}:P.underlying t=some (.struct fs)->ds.length=P.cellsOf t->(∀f∈fs.toList,a2D P f.type ((ds.drop f.offset).take (P.cellsOf f.type)))->a2D P t ds
 |array {t e:TypeId} {n:Nat} {ds:List D}:P.underlying t=some (.array n e)->ds.length=P.cellsOf t->(∀i,i<n->a2D P e ((ds.drop (i*P.cellsOf e)).take (P.cellsOf e)))->a2D P t ds
def a2E(P:Program)(L:List TypeId):Bool:=L.all λt=>decide (t<P.types.size)&&match P.underlying t with
 |some .bool|some (.int _)|some .string=>true
 |some (.slice e)=>L.contains e&&decide (0<P.cellsOf e)
 |some (.struct fs)=>fs.toList.all λf=>L.contains f.type
 |some (.array _ e)=>L.contains e
 |_=>false
theorem c4V{w:World}{a:Addr}{m:Nat}{v:Value}(h:w.cell? (a.add m)=some v):w.cell? ⟨a.block,a.off+m,none⟩=some v:=by
 obtain⟨b,o,sp⟩:=a;by_cases hm:m=0
 .subst hm;simp only[Addr.add,if_true]at h;unfold World.cell? at h|-;simp only at h|-;cases hb:w.heap[b]? with
  |none=>rw[hb]at h;cases h
  |some o'=>
   rw[hb]at h;cases o' with
   |cells c _ _=>
    simp only at h|-;split at h
    .cases h
    .simpa using h
   |_=>cases h
 .simpa[Addr.add,hm]using h
theorem d1Y{w:World}{a:Addr}{v:Value}(h:w.cell? a=some v):a.spot=none:=by
 unfold World.cell? at h;split at h
 .split at h
  .cases h
  .rename_i hs;simpa using hs
 .cases h
theorem d0p{w:World}{a:Addr}{v:Value}(h:w.cell? a=some v):a.block<w.heap.size:=by
 unfold World.cell? at h;split at h
 .rename_i hb;exact(g1f.1 hb).1
 .cases h
theorem uN{α β:Type}{f:α->Option β}:∀ {l:List α} {r:List β},l.mapM f=some r->∀(i:Nat) (a:α),l[i]? =some a->∃b,r[i]? =some b/\f a=some b
 |[],_,_,i,a,ha=>by simp at ha
 |x::l,r,h,i,a,ha=>by
  rw[List.mapM_cons]at h;obtain⟨b,hb,h⟩:=g1k.1 h;obtain⟨bs,hbs,h⟩:=g1k.1 h;cases h;cases i with
  |zero=>simp at ha;subst ha;exact⟨b,rfl,hb⟩
  |succ i=>exact uN hbs i a (by simpa using ha)
theorem a6r{w:World}{base:Nat}{a:Addr}{n:Nat}{cs:List Value}(h:w.cells? base a n=some cs):cs.length=n/\∀j,j<n->w.cell? (a.add j)=some (cs.getD j undef):=by
 unfold World.cells? at h;split at h
 .have hl:=mapM_some_length h;refine⟨by simpa using hl,λj hj=>?_⟩;obtain⟨v,h1,h2⟩:=uN h j j (by simp[hj]);simpa[List.getD,h1]using h2
 .cases h
theorem b0A{α:Type}:∀(ls:List (List α)) (j:Nat) (l:List α),ls[j]? =some l->(ls.flatten.drop ((ls.take j).map List.length).sum).take l.length=l
 |[],j,l,h=>by simp at h
 |x::r,0,l,h=>by simp at h;subst h;simp
 |x::r,j+1,l,h=>by simp only[List.getElem?_cons_succ]at h;have:=b0A r j l h;simp only[List.flatten_cons,List.take_succ_cons,List.map_cons,List.sum_cons];rw[<-List.drop_drop,List.drop_append_of_le_length (g1m _),List.drop_length,List.nil_append];exact this
theorem b5K{α:Type}:∀(ls:List (List α)) (i:Nat) (x:α),ls.flatten[i]? =some x->∃j l k,ls[j]? =some l/\l[k]? =some x/\i=((ls.take j).map List.length).sum+k
 |[],i,x,h=>by simp at h
 |l::r,i,x,h=>by
  simp only[List.flatten_cons]at h;by_cases hi:i<l.length
  .rw[g1h hi]at h;exact⟨0,l,i,rfl,h,by simp⟩
  .rw[g1e (by omega)]at h;obtain⟨j,l',k,h1,h2,h3⟩:=b5K r _ x h;exact⟨j+1,l',k,h1,h2,by rw[List.take_succ_cons,List.map_cons,List.sum_cons];omega⟩
section
variable {P:Program} {H:Type} {enc:TypeId×Value->H} {w:World} {sp:Nat->Bool} {held:Bool} {L:List TypeId}
abbrev RW(w:World):Nat->Nat->Prop:=λb _=>b<w.heap.size
theorem b5L{parts:List (DataW H×List MemPlace)}{cs:List Value}{offs:List Nat}{szs:List Nat}(hl:offs.length=parts.length)(hl':szs.length=parts.length)(b4j:∀(j:Nat) (o:Nat),offs[j]? =some o->o=(szs.take j).sum)(rI:cs.length=szs.sum)(h:∀(j:Nat) (y:DataW H×List MemPlace) (o s:Nat),parts[j]? =some y->offs[j]? =some o->szs[j]? =some s->(flat y.1).length=((cs.drop o).take s).length/\∀i d,(flat y.1)[i]? =some d->d.one=true/\V (RW w) w (((cs.drop o).take s).getD i undef) d):
  (xN (parts.map (·.1))).length=cs.length/\(∀(j:Nat) (y:DataW H×List MemPlace) (o s:Nat),parts[j]? =some y->offs[j]? =some o->szs[j]? =some s->((xN (parts.map (·.1))).drop o).take s=flat y.1)/\
   ∀i d,(xN (parts.map (·.1)))[i]? =some d->d.one=true/\V (RW w) w (cs.getD i undef) d:=by
 rw[b5J,List.map_map];have hlen:∀(j:Nat) (y:DataW H×List MemPlace) (o s:Nat),parts[j]? =some y->offs[j]? =some o->szs[j]? =some s->(flat y.1).length=s:=λj y o s h1 h2 h3=>by
  rw[(h j y o s h1 h2 h3).1,List.length_take,List.length_drop];have:=b4j j o h2;have hle:(szs.take j).sum+s<=szs.sum:=by
   have hj:j<szs.length:=(g0X.1 h3).1;have hs:szs[j]=s:=by rw[g1a hj]at h3;exact Option.some.inj h3
   have e:szs.sum=(szs.take j).sum+(szs.drop j).sum:=by rw[<-List.sum_append,List.take_append_drop]
   rw[e,g1j hj,List.sum_cons,hs];omega
  omega
 have f0s:parts.map (List.length∘flat∘(·.1))=szs:=by
  apply List.ext_getElem?;intro j;rw[g1g];by_cases hj:j<parts.length
  .have h1:parts[j]? =some parts[j]:=g1a hj;have h2:offs[j]? =some (offs[j]'(by omega)):=g1a _;have h3:szs[j]? =some (szs[j]'(by omega)):=g1a _;rw[h1,h3];simpa using hlen j _ _ _ h1 h2 h3
  .rw[List.getElem?_eq_none (by omega),List.getElem?_eq_none (by omega)]
   rfl
 have a9s:∀j,(((parts.map (flat∘(·.1))).take j).map List.length).sum=(szs.take j).sum:=λj=>by rw[<-f0s, <- List.map_take, <- List.map_take,List.map_map]
 refine⟨?_,λj y o s h1 h2 h3=>?_,λi d hi=>?_⟩
 .rw[List.length_flatten,List.map_map,f0s,rI]
 .have:=b0A (parts.map (flat∘(·.1))) j (flat y.1) (by rw[g1g,h1];rfl);rw[a9s, <- b4j j o h2,hlen j y o s h1 h2 h3]at this;exact this
 .obtain⟨j,l,k,h1,h2,h3⟩:=b5K _ i d hi;rw[a9s]at h3;rw[g1g]at h1;obtain⟨y,hy,rfl⟩:=g0V.1 h1;have hj:j<parts.length:=(g0X.1 hy).1;have e2:offs[j]? =some (offs[j]'(by omega)):=g1a _;have e3:szs[j]? =some (szs[j]'(by omega)):=g1a _;obtain⟨q1,q2⟩:=h j y _ _ hy e2 e3;obtain⟨q3,q4⟩:=q2 k d h2;refine⟨q3,?_⟩;have hk:k<(flat y.1).length:=(g0X.1 h2).1;rw[hlen j y _ _ hy e2 e3]at hk;have:((cs.drop (offs[j]'(by omega))).take (szs[j]'(by omega))).getD k undef=cs.getD i undef:=by simp only[List.getD,List.getElem?_take,hk,if_true,g1p];rw[h3,b4j j _ e2]
  rwa[this]at q4
theorem b2j(sE:laidOutB P=true)(hp:a2E P L=true):∀(n:Nat) (t:TypeId) (cs:List Value) (x:DataW H×List MemPlace),L.contains t=true->DataW.trod enc P w 0 sp held n t cs=some x->
  (flat x.1).length=cs.length/\a2D P t (flat x.1)/\∀i d,(flat x.1)[i]? =some d->d.one=true/\V (RW w) w (cs.getD i undef) d:=by
 intro n
 induction n with
 |zero=>intro t cs x _ h;simp[DataW.trod]at h
 |succ n ih=>
  intro t cs x hT h;have pZ:=g0Z.1 hp t (by simpa using hT);simp only[g0W,decide_eq_true_eq]at pZ;obtain⟨hts,pZ⟩:=pZ;rw[DataW.trod_step]at h;have one:∀(v:Value) (d:D),d.one=true->V (RW w) w v d->∀i d',([d]:List D)[i]? =some d'->d'.one=true/\V (RW w) w ([v].getD i undef) d':=λv d h1 h2 i d' hi=>by
   cases i with
   |zero=>simp at hi;subst hi;exact⟨h1,h2⟩
   |succ i=>simp at hi
  unfold DataW.trodStep at h;split at h
  case h_1 b hu=>simp at h;subst h;exact⟨rfl,.bool hu,one _ _ rfl (.bool b)⟩
  case h_2 k k' m hu=>
   split at h
   .rename_i hk;obtain⟨rfl,hk⟩:=hk;simp at h;subst h;exact⟨rfl,.int hu hk,one _ _ rfl (.int _ _)⟩
   .cases h
  case h_3 hu=>rw[hu]at pZ;cases pZ
  case h_4 s hu=>
   split at h
   .rename_i hs;simp at h;subst h;exact⟨rfl,.str hu (by simpa using hs),one _ _ rfl (.str s.data.toList)⟩
   .cases h
  case h_5 hu=>rw[hu]at pZ;cases pZ
  case h_6 hu=>rw[hu]at pZ;cases pZ
  case h_7 e hu=>simp at h;subst h;exact⟨rfl,.sl hu (by simp) (by simp),one _ _ rfl (.emp none 0)⟩
  case h_8 e a len cap hu=>
   rw[hu]at pZ;simp only[g0W,decide_eq_true_eq]at pZ;obtain⟨heL,jZ⟩:=pZ;simp only at h;split at h
   .rename_i hc;obtain⟨_,hlc,hcm⟩:=hc;simp only[g0V,g1k]at h;obtain⟨elems,he,rest,_,rfl⟩:=h;have hlen:elems.length=len:=by simpa using mapM_some_length he
    have each:∀(i:Nat) (y:DataW H×List MemPlace),elems[i]? =some y->∃wF,w.cells? 0 (a.add (i*P.cellsOf e)) (P.cellsOf e)=some wF/\DataW.trod enc P w 0 sp held n e wF=some y:=λi y hy=>by
     have hi:i<len:=by have:=(g0X.1 hy).1;omega
     obtain⟨v,h1,h2⟩:=uN he i i (by simp[hi]);rw[hy]at h1;cases h1;simpa only[g1k]using h2
    simp only[flat,b3i,List.map_map];refine⟨rfl,.sl hu (by simp[hlen];omega) (λz hz=>?_),?_⟩
    .obtain⟨y,hy,rfl⟩:=List.mem_map.1 hz;obtain⟨i,hi⟩:=List.mem_iff_getElem?.1 hy;obtain⟨wF,h1,h2⟩:=each i y hi;exact(ih e wF y heL h2).2.1
    .refine one _ _ rfl ?_;by_cases h0:len=0
     .subst h0;have:elems=[]:=List.eq_nil_of_length_eq_zero hlen;subst this;exact .emp _ _
     .obtain⟨y0,hy0⟩:∃y,elems[0]? =some y:=⟨elems[0]'(by omega),g1a _⟩;obtain⟨cs0,yI,_⟩:=each 0 y0 hy0;have h00:=(a6r yI).2 0 jZ;have e4x:a.spot=none:=by simpa[Addr.add]using d1Y h00
      obtain⟨b,o,sp0⟩:=a;simp only at e4x;subst e4x;have cell:∀(i j:Nat),i<len->j<P.cellsOf e->∃y wF,elems[i]? =some y/\DataW.trod enc P w 0 sp held n e wF=some y/\wF.length=P.cellsOf e/\w.cell? ⟨b,o+i*P.cellsOf e+j,none⟩=some (wF.getD j undef):=λi j hi hj=>by
       have hy:elems[i]? =some (elems[i]'(by omega)):=g1a _;obtain⟨wF,h1,h2⟩:=each i _ hy;obtain⟨h3,h4⟩:=a6r h1;refine⟨_,wF,hy,h2,h3,?_⟩;have h5:=c4V (h4 j hj);have e1:((⟨b,o,none⟩:Addr).add (i*P.cellsOf e)).block=b:=by unfold Addr.add;split<;>rfl
       have e2:((⟨b,o,none⟩:Addr).add (i*P.cellsOf e)).off=o+i*P.cellsOf e:=by
        unfold Addr.add;split
        .rename_i hz;simp[hz]
        .rfl
       rw[e1,e2]at h5;exact h5
      have kid:∀(i j:Nat) (e':List D) (d:D),(elems.map (flat∘(·.1)))[i]? =some e'->e'[j]? =some d->d.one=true/\V (RW w) w ((w.cell? ⟨b,o+i*P.cellsOf e+j,none⟩).getD undef) d:=λi j e' d h1 h2=>by
       rw[g1g]at h1;obtain⟨y,hy,rfl⟩:=g0V.1 h1;have hi:i<len:=by have:=(g0X.1 hy).1;omega
       obtain⟨wF,f0t,htr⟩:=each i y hy;obtain⟨q1,_,q3⟩:=ih e wF y heL htr;obtain⟨p1,p2⟩:=q3 j d h2;have hj:j<P.cellsOf e:=by have:=(g0X.1 h2).1;have h3:=(a6r f0t).1;simp only[Function.comp]at this;omega
       obtain⟨y',cs2,hy',f7U,hl2,qC⟩:=cell i j hi hj;rw[hy]at hy';cases hy';obtain⟨h3,h4⟩:=a6r f0t;have h5:=c4V (h4 j hj);have e1:((⟨b,o,none⟩:Addr).add (i*P.cellsOf e)).block=b:=by unfold Addr.add;split<;>rfl
       have e2:((⟨b,o,none⟩:Addr).add (i*P.cellsOf e)).off=o+i*P.cellsOf e:=by
        unfold Addr.add;split
        .rename_i hz;simp[hz]
        .rfl
       rw[e1,e2]at h5;rw[h5];exact⟨p1,p2⟩
      refine .sl b o len cap (P.cellsOf e) _ (λi j=>(w.cell? ⟨b,o+i*P.cellsOf e+j,none⟩).getD undef) (by simp[hlen]) hlc jZ (λx hx=>?_) (λi j hi hj=>?_) (λi j e' d h1 h2=>(kid i j e' d h1 h2).1) (λi j e' d h1 h2=>(kid i j e' d h1 h2).2)
      .obtain⟨y,hy,rfl⟩:=List.mem_map.1 hx;obtain⟨i,hi⟩:=List.mem_iff_getElem?.1 hy;obtain⟨wF,h1,h2⟩:=each i y hi;simp only[Function.comp];rw[(ih e wF y heL h2).1,(a6r h1).1]
      .obtain⟨_,_,_,_,_,qC⟩:=cell i j hi hj;rw[qC];exact⟨d0p qC,rfl⟩
   .cases h
  case h_9 cs _ _ fs hu=>
   rw[hu]at pZ;simp only at pZ;split at h
   .rename_i hc;obtain⟨hk1,hk2,hk3⟩:=kid_struct sE hts hu;simp only[g0V]at h;obtain⟨xs,hx,rfl⟩:=h;have hlen:xs.length=fs.toList.length:=mapM_some_length hx;obtain⟨q1,q2,q3⟩:=b5L (w:=w) (parts:=xs) (cs:=cs) (offs:=fs.toList.map (·.offset)) (szs:=fs.toList.map λf=>P.cellsOf f.type) (by simp[hlen]) (by simp[hlen])
     (λj o ho=>by rw[g1g]at ho;obtain⟨f,hf,rfl⟩:=g0V.1 ho;rw[hk3 j f hf,List.map_take]) (by rw[hc,hk2])
     (λj y o s h1 h2 h3=>by rw[g1g]at h2 h3;obtain⟨f,hf,rfl⟩:=g0V.1 h2;rw[hf]at h3;simp only[Option.map_some,g1c]at h3;subst h3;obtain⟨v,p1,p2⟩:=uN hx j f hf;rw[h1]at p1;cases p1;have:=ih f.type _ _ (g0Z.1 pZ f (g1b hf)) p2;exact⟨this.1,this.2.2⟩)
    simp only[flat];refine⟨q1,.struct hu (by rw[q1,hc]) (λf hf=>?_),q3⟩;obtain⟨j,hj⟩:=List.mem_iff_getElem?.1 hf;obtain⟨v,p1,p2⟩:=uN hx j f hj;rw[q2 j v f.offset (P.cellsOf f.type) p1 (by rw[g1g,hj];rfl) (by rw[g1g,hj];rfl)];exact(ih f.type _ _ (g0Z.1 pZ f hf) p2).2.1
   .cases h
  case h_10 cs _ _ m e hu=>
   rw[hu]at pZ;simp only at pZ;split at h
   .rename_i hc;obtain⟨_,hk2⟩:=kid_array sE hts hu;simp only[g0V]at h;obtain⟨xs,hx,rfl⟩:=h;have hlen:xs.length=m:=by simpa using mapM_some_length hx
    have at':∀(j:Nat) (y:DataW H×List MemPlace),xs[j]? =some y->DataW.trod enc P w 0 sp held n e ((cs.drop (j*P.cellsOf e)).take (P.cellsOf e))=some y:=λj y hy=>by
     have hj:j<m:=by have:=(g0X.1 hy).1;omega
     obtain⟨v,p1,p2⟩:=uN hx j j (by simp[hj]);rw[hy]at p1;cases p1;exact p2
    have e1z:∀j,j<=m->(((List.replicate m (P.cellsOf e)).take j).sum)=j*P.cellsOf e:=λj hj=>by rw[List.take_replicate,Nat.min_eq_left hj,List.sum_replicate_nat]
    obtain⟨q1,q2,q3⟩:=b5L (w:=w) (parts:=xs) (cs:=cs) (offs:=(List.range m).map λi=>i*P.cellsOf e) (szs:=List.replicate m (P.cellsOf e)) (by simp[hlen]) (by simp[hlen])
     (λj o ho=>by
      rw[g1g]at ho;obtain⟨i,hi,rfl⟩:=g0V.1 ho;have hjm:j<m:=by have:=(g0X.1 hi).1;simpa using this
      have:i=j:=by rw[List.getElem?_range hjm]at hi;simpa using hi.symm
      rw[this,e1z j (by omega)]) (by rw[hc,hk2,List.sum_replicate_nat])
     (λj y o s h1 h2 h3=>by
      have hjm:j<m:=by have:=(g0X.1 h1).1;omega
      have ho:o=j*P.cellsOf e:=by rw[g1g,List.getElem?_range hjm]at h2;simpa using h2.symm
      have hs:s=P.cellsOf e:=by rw[List.getElem?_replicate,if_pos hjm]at h3;simpa using h3.symm
      subst ho hs;have:=ih e _ _ pZ (at' j y h1);exact⟨this.1,this.2.2⟩)
    simp only[flat];refine⟨q1,.array hu (by rw[q1,hc]) (λi hi=>?_),q3⟩;have hy:xs[i]? =some (xs[i]'(by omega)):=g1a _;rw[q2 i _ (i*P.cellsOf e) (P.cellsOf e) hy (by rw[g1g,List.getElem?_range hi];rfl) (by rw[List.getElem?_replicate,if_pos hi])];exact(ih e _ _ pZ (at' i _ hy)).2.1
   .cases h
  all_goals first|(rename_i hu;rw[hu]at pZ;cases pZ;done)|(cases h;done)
theorem d5u{t:TypeId}{ds:List D}(hu:P.underlying t=some .string)(h:a2D P t ds):∃s,ds=[.str s]/\s.length<=maxLen:=by
 cases h with
 |str _ h=>exact⟨_,rfl,h⟩
 |_ h1=>rw[hu]at h1;cases h1
def a8u(P:Program)(t:TypeId)(d:D):Prop:=
 match P.underlying t with
 |some u=>if pV u then ∃cs,d=.agg cs/\a2D P t cs else a2D P t [d]
 |none=>False
def b0B(P:Program):List TypeId->List D->Prop
 |[],[]=>True
 |t::ts,d::ds=>a8u P t d/\b0B P ts ds
 |_,_=>False
theorem d1Z{t:TypeId}{u:TypeDesc}{d:D}(hu:P.underlying t=some u)(ha:pV u=false)(h:a8u P t d):a2D P t [d]:=by unfold a8u at h;rw[hu]at h;simp only[ha]at h;exact h
theorem d2a{t:TypeId}{d:D}(hu:P.underlying t=some .string)(h:a8u P t d):∃s,d=.str s/\s.length<=maxLen:=by obtain⟨s,h1,h2⟩:=d5u hu (d1Z hu rfl h);cases h1;exact⟨s,rfl,h2⟩
theorem b5M{r:Reach}{b0:Nat}{t:TypeId}{v:Value}{u:TypeDesc}(hu:P.underlying t=some u)(ha:pV u=false)(hp:(match P.underlying t with|some .bool|some (.int _)|some .string|some (.slice _)=>true|_=>false)=true)(a2l:Value.okWide P w r b0 t v):v.cells=#[v]:=by
 unfold Value.okWide at a2l;rw[hu]at a2l hp;cases u<;>simp only[pV]at ha<;>(try cases ha)<;>simp only[]at hp<;>(try cases hp)
 all_goals
  simp only[Cell.okWide,hu]at a2l;cases v<;>first|rfl|(simp[Cell.ok,hu]at a2l)
theorem d5v{r:Reach}{b0:Nat}(sE:laidOutB P=true)(hp:a2E P L=true){t:TypeId}{v:Value}{d:DataW H}{ps:List MemPlace}(hT:L.contains t=true)(a2l:Value.okWide P w r b0 t v)(h:DataW.Trod enc P w 0 sp held t v d ps):
  ∃x,a8u P t x/\V (RW w) w v x:=by
 obtain⟨n,hn⟩:=h;obtain⟨h1,h2,h3⟩:=b2j sE hp n t _ _ hT hn;have pZ:=g0Z.1 hp t (by simpa using hT);simp only[g0W,decide_eq_true_eq]at pZ;obtain⟨_,pZ⟩:=pZ;cases hu:P.underlying t with
 |none=>rw[hu]at pZ;cases pZ
 |some u=>
  cases ha:pV u with
  |true=>
   have hv:∃cs:Array Value,v=.agg cs:=by
    unfold Value.okWide at a2l;rw[hu]at a2l;cases u<;>simp only[pV]at ha<;>(try cases ha)
    .obtain⟨cs,hv,_⟩:=a2l;exact⟨cs,hv⟩
    .obtain⟨cs,hv,_⟩:=a2l;exact⟨cs,hv⟩
   obtain⟨cs,rfl⟩:=hv;refine⟨.agg (flat d),by simp only[a8u,hu,ha,if_true];exact⟨_,rfl,h2⟩,.agg _ _ (by simpa[Value.cells]using h1.symm) (λi x hx=>(h3 i x hx).1) (λi x hx=>?_)⟩;have:=(h3 i x hx).2;simpa[Value.cells,List.getD,g0Y]using this
  |false=>
   have hc:v.cells=#[v]:=by refine b5M hu ha ?_ a2l;rw[hu]at pZ|-;cases u<;>simp only[pV]at ha<;>(try cases ha)<;>first|rfl|(simp at pZ)
   rw[hc]at h1 h3;simp at h1;obtain⟨x,hx⟩:∃x,flat d=[x]:=List.length_eq_one_iff.1 h1;simp only[hx]at h2 h3;refine⟨x,by simp only[a8u,hu,ha];exact h2,?_⟩;simpa using (h3 0 x rfl).2
theorem a3H{r:Reach}{b0:Nat}(sE:laidOutB P=true)(hp:a2E P L=true):∀ {ts:List TypeId} {vs:List Value} {ds:List (DataW H)} {ps:List MemPlace},(∀t∈ts,L.contains t=true)->(∀(j:Nat) t v,ts[j]? =some t->vs[j]? =some v->Value.okWide P w r b0 t v)->
  DataW.TrodAll enc P w 0 sp held ts vs ds ps->∃xs,b0B P ts xs/\vs.length=xs.length/\∀(i:Nat) (d:D),xs[i]? =some d->V (RW w) w (vs.getD i undef) d
 |[],_,_,_,_,_,h=>by obtain⟨rfl,rfl,rfl⟩:=trodAll_nil h;exact⟨[],trivial,rfl,by simp⟩
 |t::ts,_,_,_,hT,hv,h=>by
  obtain⟨v,vs1,d,ds1,a,b,rfl,rfl,rfl,h1,h2⟩:=trodAll_cons h;obtain⟨x,q1,q2⟩:=d5v sE hp (hT t (.head _)) (hv 0 t v rfl rfl) h1;obtain⟨xs,q3,q4,q5⟩:=a3H sE hp (λt ht=>hT t (.tail _ ht)) (λj t v a b=>hv (j+1) t v a b) h2;refine⟨x::xs,⟨q1,q3⟩,by simp[q4],λi d hi=>?_⟩;cases i with
  |zero=>simp at hi;subst hi;simpa using q2
  |succ i=>simp at hi;simpa using q5 i d hi
theorem a8v{w':World}{base:Nat}:∀ {ts:List TypeId} {vs:List Value} {ds:List (DataW H)} {ps:List MemPlace},DataW.TrodAll enc P w base sp held ts vs ds ps->(∀p∈ps,w.sameAt w' p)->DataW.TrodAll enc P w' base sp held ts vs ds ps
 |[],[],[],_,h,_=>h
 |_::_,_::_,_::_,_,⟨p,q,⟨n,hn⟩,h2,e⟩,hs=>⟨p,q,⟨n,DataW.trod_carry n _ _ _ hn λx hx=>hs x (by rw[e];exact List.mem_append_left _ hx)⟩,a8v h2 λx hx=>hs x (by rw[e];exact List.mem_append_right _ hx),e⟩
theorem b3j{base:Nat}:∀ {ts:List TypeId} {vs:List Value} {ds:List (DataW H)} {ps:List MemPlace},DataW.TrodAll enc P w base sp held ts vs ds ps->ds.length=ts.length
 |[],[],[],_,_=>rfl
 |_::_,_::_,_::_,_,⟨_,_,_,h,_⟩=>by simp[b3j h]
theorem d2b{f:Func}{s:ChangeSpec}{apart fresh handsOn again:Bool}{W W':World}{args:Array Value}{v:Value}{ds gs:List (DataW H)}{before:List MemPlace}(hW:DataW.Whole enc P f.params.toList s.vars apart W args.toList ds gs before)(mU:Below W.heap.size W W')(kF:∀(b:Nat) (sp:Nat->Bool) (hd:Bool),DataW.TrodAll enc P W' b sp hd f.resultTypes.toList (v.resultList f.resultTypes.size) (s.fn H (ds++gs)).results [])(kO:∀sp:Nat->Bool,(∀p∈before,sp p.block=true)->DataW.TrodAll enc P W' 0 sp true f.params.toList args.toList (s.fn H (ds++gs)).args before)(c4W:∀sp:Nat->Bool,(∀p∈before,sp p.block=true)->DataW.TrodVars enc P W' sp s.vars (s.fn H (ds++gs)).vars [])(oI:∀(j:Nat) (t:TypeId) (r:Value),f.resultTypes[j]? =some t->(v.resultList f.resultTypes.size)[j]? =some r->Value.okWide P W' .any 0 t r):
  s.post enc P f apart fresh handsOn again W args v W':=by
 have aF:=hW.lt;have hold:∀p∈before,(λb=>decide (b<W.heap.size)) p.block=true:=λp hp=>by simpa using aF p hp
 refine⟨ds,gs,before,[],before,[],hW,kF _ _ _,kO _ hold,c4W _ hold,World.keptBut_mono (λp hp=>⟨hp,?_⟩) (mU.frame (· ∈before)),λ_=>?_⟩
 .exact Or.inr (by simpa using hp)
 .obtain⟨_,_,_,_,_,hz,hn⟩:=hW;refine⟨oI,_,_,([]++before)++[],⟨[]++before,[],trodAll_append (kO _ (λ_ _=>rfl)) (kF _ _ _),c4W _ (λ_ _=>rfl),rfl,?_,?_⟩,?_⟩
  .intro b off hp;have hp':MemPlace.cell b off∈before:=by simpa using hp
   rw[mU.frozen (aF _ hp')];exact hz b off hp'
  .intro ha;simpa using hn ha
  .intro p hp _;simpa using hp
theorem b0C{W:World}:∀ {laid:List (String×DataW Unit)} {ps:List MemPlace},DataW.LaidVars P W laid ps->∀(n:String) (d:DataW Unit),(n,d)∈laid->
  ∃g t cs fuel p,P.globalNamed n=some g/\(P.globals[g]?).map (·.type)=some t/\W.var? P n=some cs/\DataW.trod (λ_=>()) P W 0 (λ_=>true) false fuel t cs.toList=some (d,p)
 |[],_,_,n,d,hm=>by cases hm
 |(n',d')::r,_,⟨g,t,cs,fuel,p,q,h1,h2,h3,h4,h5,_⟩,n,d,hm=>by
  rcases List.mem_cons.1 hm with he|hm
  .cases he;exact⟨g,t,cs,fuel,p,h1,h2,h3,h4⟩
  .exact b0C h5 n d hm
theorem laidMetH_plain{laid:List (String×DataW Unit)}{W:World}(hh:(laid.filter λx=>x.2.handleName?.isSome).isEmpty=true)(h:laidMetH P laid W):laidMet P laid W:=by unfold laidMetH at h;rw[List.isEmpty_iff.1 hh]at h;exact h
theorem c4X{laid:List (String×DataW Unit)}{W:World}(hh:(laid.filter λx=>x.2.handleName?.isSome).isEmpty=true)(h:laidMet P laid W):laidMetH P laid W:=by unfold laidMetH;rw[List.isEmpty_iff.1 hh];exact h
theorem c4Y{laid:List (String×DataW Unit)}{W:World}(sE:laidOutB P=true)(hp:a2E P L=true)(hh:(laid.filter λx=>x.2.handleName?.isSome).isEmpty=true)(h:laidMetH P laid W){n:String}{d:DataW Unit}{g:Nat}{t:TypeId}(hm:(n,d)∈laid)(hg:P.globalNamed n=some g)(ht:(P.globals[g]?).map (·.type)=some t)(hL:L.contains t=true):
  Run (RW W) W g 0 (flat d)/\g<W.heap.size/\∃arr T fr,W.heap[g]? =some (.cells arr T fr)/\arr.size=(flat d).length:=by
 obtain⟨ps,hl,_⟩:=laidMetH_plain hh h;obtain⟨g',t',cs,fuel,p,h1,h2,h3,h4⟩:=b0C hl n d hm;rw[hg]at h1;cases h1;rw[ht]at h2;cases h2;obtain⟨q1,_,q3⟩:=b2j sE hp fuel t _ _ hL h4;simp only[Array.length_toList]at q1;have f4h:∃T fr,W.heap[g]? =some (.cells cs T fr):=by
  unfold World.var? at h3;rw[hg]at h3;simp only[Option.bind_some]at h3;split at h3
  .rename_i T fr hb;cases h3;exact⟨T,fr,hb⟩
  .cases h3
 obtain⟨T,fr,hb⟩:=f4h;refine⟨λj x hj=>?_,(g1f.1 hb).1,cs,T,fr,hb,q1.symm⟩;obtain⟨p1,p2⟩:=q3 j x hj;have hjl:j<cs.size:=by have:=(g0X.1 hj).1;rw[q1]at this;exact this
 have qC:W.cell? ⟨g,0+j,none⟩=some (cs[j]'hjl):=by unfold World.cell?;simp only[hb];simp[hjl]
 refine⟨p1,d0p qC,_,qC,?_⟩;have:cs.toList.getD j undef=cs[j]:=by simp[List.getD,hjl]
 rwa[this]at p2
end
end Go.VM
end
section
section
namespace Go.VM
open Go Go.RowKit Go.Sort
section
variable {P:Program} {G:GT}
theorem CS.d0q{f:FuncId}{ds:List D}{r:D}(h:∀(w:World) (R:Nat->Nat->Prop) (args:Array Value),a8d G (a0u w.heap.size) R w->(∀b o,R b o->b<w.heap.size)->args.size=ds.length->(∀(i:Nat) (d:D),ds[i]? =some d->V R w (args.getD i undef) d)->
  Calls P f args w λe w'=>∃v,e=.returned v/\V R w' v r/\Below w.heap.size w w'):CS P G f ds (.d r) none:=λw R args hg hR hl hv=>
 (h w R args hg hR hl hv).mono λe w' ⟨v,he,hr,hb⟩=>⟨v,R,he,λ_=>.d _ _ hr,⟨.d4d hb,λ_ _ h=>h,λ_ _ h h'=>absurd h h',λb o hbo=>hb.cell (hR b o hbo)⟩,λb o hbo=>Nat.lt_of_lt_of_le (hR b o hbo) hb.size,λ_ he=>by cases he⟩
theorem e1A{f:FuncId}{xs:List (List UInt8)}{sep:List UInt8}(h0:∀(a:Option Addr) (c:Nat) (sep:ByteArray) (w:World),Calls P f #[.slice a 0 c,.string sep] w λe w'=>e=.returned (.string ⟨#[]⟩)/\w'=w)(h1:∀(bk o c:Nat) (xs:List ByteArray) (sep:ByteArray) (w:World),(∀(j:Nat) x,xs[j]? =some x->w.cell? ⟨bk,o+j,none⟩=some (.string x))->bk<w.heap.size->xs.length<=140737488355328->xs.length<=c->(Lib.join (xs.map (·.data.toList)) sep.data.toList).length<=140737488355328->
   Calls P f #[.slice (some ⟨bk,o,none⟩) xs.length c,.string sep] w λe w'=>e=.returned (.string ⟨(Lib.join (xs.map (·.data.toList)) sep.data.toList).toArray⟩)/\Below w.heap.size w w')(hl:xs.length<=140737488355328)(hj:(Lib.join xs sep).length<=140737488355328):CS P G f [.sl (xs.map λs=>[.str s]),.str sep] (.d (.str (Lib.join xs sep))) none:=by
 refine CS.d0q λw R args hg hR hs hv=>?_;have ha:args=#[args.getD 0 undef,args.getD 1 undef]:=by
  obtain⟨l⟩:=args
  match l,hs with
  |[a,b],_=>rfl
 have e1:=(hv 1 _ rfl).pW;have e0:=hv 0 _ rfl;have nix:∀a c,xs=[]->args=#[.slice a 0 c,.string ⟨sep.toArray⟩]->Calls P f args w λe w'=>∃v,e=.returned v/\V R w' v (.str (Lib.join xs sep))/\Below w.heap.size w w':=λa c hx ha'=>by rw[ha',hx,Lib.join_nil];exact(h0 a c _ w).mono λe w' ⟨he,hw⟩=>⟨_,he,.str [],hw▸Below.refl _ _⟩
 generalize args.getD 0 undef=v0 at *;rw[e1]at ha;generalize hes:(xs.map λs=>[D.str s])=es0 at e0;cases e0 with
 |emp ao cap=>exact nix ao cap (by simpa using hes) ha
 |sl b o n cap size es g q1 q2 q3 q4 q5 q6 q7=>
  subst hes;by_cases hx:xs=[]
  .have:n=0:=by rw[q1,hx];rfl
   subst this;exact nix _ cap hx ha
  .have hn:n=xs.length:=by rw[q1];simp
   have jZ:size=1:=by
    cases xs with
    |nil=>exact absurd rfl hx
    |cons x r=>exact(q4 [.str x] (by simp)).symm
   subst jZ;have hc:∀(j:Nat) (x:List UInt8),xs[j]? =some x->R b (o+j)/\w.cell? ⟨b,o+j,none⟩=some (.string ⟨x.toArray⟩):=λj x hj=>by
    have hjl:j<n:=by rw[hn];exact(g0X.1 hj).1
    obtain⟨r1,r2⟩:=q5 j 0 hjl (by omega);have:=q7 j 0 [.str x] (.str x) (by rw[g1g,hj];rfl) rfl;simp only[Nat.mul_one,Nat.add_zero]at r1 r2;rw[this.pW]at r2;exact⟨r1,r2⟩
   have hb:b<w.heap.size:=by
    cases xs with
    |nil=>exact absurd rfl hx
    |cons x r=>exact hR b _ (hc 0 x rfl).1
   have key:=h1 b o cap (xs.map λs=>⟨s.toArray⟩) ⟨sep.toArray⟩ w (λj x hj=>by rw[g1g]at hj;obtain⟨y,hy,rfl⟩:=g0V.1 hj;exact(hc j y hy).2) hb (by simpa using hl) (by simp;omega) (by simpa[List.map_map,Function.comp_def]using hj)
   simp only[List.length_map,List.map_map,Function.comp_def]at key;rw[ha,hn];have hid:List.map (λx:List UInt8=>x) xs=xs:=by simp
   simp only[hid]at key;exact key.mono λe w' ⟨he,hw⟩=>⟨_,he,.str _,hw⟩
end
end Go.VM
end
section
namespace Go.VM
open Go Go.RowKit
section
variable {P:Program} {G:GT} {st:St} {base:dH} {R:Nat->Nat->Prop} {μ:Nat->Nat} {a:Act} {w:World}
def d5w(P:Program)(s:St):ResultVar->Option DV
 | .tmp i=>some (s.tmps.getD i (.cI []))
 | .cell p ty=>match s.tmps.getD p (.cI [])with
  | .ptr k off=>(match getKey k s.H with
   |some (.cells cs)=>b2R P ty (cs.drop off)
   |_=>none)
  |_=>none
def a2F(P:Program)(s:St)(rs:List ResultVar):Option DV:=match rs with
 |[r]=>d5w P s r
 |rs=>(a6j P s rs).map .cI
theorem e1B(hr:Rel P G base R μ st a w){r:ResultVar}{x:DV}(h:d5w P st r=some x):∃v,(b2g a.tmps r).run P w=.ok v w/\TV R μ w v x:=by
 cases r with
 |tmp i=>simp only[d5w,g1c]at h;subst h;have he:=hr.eval (.tmp i);simp only[St.eval,Act.eval]at he;exact⟨_,rfl,he⟩
 |cell p ty=>
  simp only[d5w]at h;have he:=hr.eval (.tmp p);simp only[St.eval,Act.eval]at he;split at h
  .rename_i k off hp;split at h
   .rename_i cs hk;rw[hp]at he;obtain⟨_,_,hob⟩:=hr.jR k _ hk;have cW:=(b1Y.a5T hob).drop off;rw[Nat.zero_add]at cW;obtain⟨v,h1,h2,_⟩:=yT (P:=P) cW h;refine⟨v,?_,h2⟩;unfold b2g;simp only;rw[he.c1r];simp only[asAddr,Sem.run_bind,Sem.run_pure,Result.andThen_ok,h1]
   .cases h
  .cases h
theorem a1N(hr:Rel P G base R μ st a w){fn:Func}{r:DV}(h:a2F P st fn.results.toList=some r):∃v,(results fn a.tmps).run P w=.ok v w/\TV R μ w v r:=by
 unfold a2F at h;split at h
 .rename_i r0 hrs;obtain⟨v,h1,h2⟩:=e1B hr h;refine⟨v,?_,h2⟩;rw[a9p,Array.mapM_eq_mapM_toList,hrs];simp[h1]
 .rename_i eU;obtain⟨ds,hds,rfl⟩:=g0V.1 h;obtain⟨vs,h1,h2,h3⟩:=b5C hr hds;have hl:vs.length≠1:=λe=>by
   have:ds.length=1:=by omega
   have hrl:fn.results.toList.length=1:=by rw[<-b9W hds];exact this
   match hq:fn.results.toList,hrl with
   |[x],_=>exact eU x hq
  refine⟨.tuple vs.toArray,?_,.cI _ _ (by simpa using h2) (λi d hi=>by have:=h3 i d hi;simpa[g0Y,List.getD]using this)⟩;rw[a9p,Array.mapM_eq_mapM_toList];simp only[Sem.run_bind,Sem.run_map,h1,Result.andThen_ok,Sem.run_pure];rw[dif_neg (by simpa using hl)]
where b9W {P:Program} {s:St}:∀ {l:List ResultVar} {ds:List D},a6j P s l=some ds->ds.length=l.length
 |[],ds,h=>by simp[a6j]at h;subst h;rfl
 |r::l,ds,h=>by
  simp only[a6j]at h;split at h
  .rename_i x ds' _ h';simp at h;subst h;simp[b9W h']
  .cases h
def b2k(n:Nat)(rs:List ResultVar):Loc->Option Loc
 | .t j=>match rs with
  |[.tmp i]=>if i=j/\j<n then some (.t 0) else none
  |_=>none
 | .c k off=>some (.c k off)
def b3l(s:St)(rs:List ResultVar)(r:DV):St:=⟨[r],s.H,s.own.map λc=>(c.1,c.2.filterMap (b2k s.tmps.length rs))⟩
def d0r(P:Program)(s:St)(rs:List ResultVar)(s1:St):Prop:=match a2F P s rs with
 |some r=>wI (b3l s rs r) s1
 |none=>False
theorem Rel.ret(hr:Rel P G base R μ st a w){fn:Func}{r:DV}{v:Value}(hv:(results fn a.tmps).run P w=.ok v w)(ht:TV R μ w v r):Rel P G base R μ (b3l st fn.results.toList r) {tmps:=#[v],defers:=[]} w:=by
 refine⟨rfl,rfl,λi u d hu hd=>?_,hr.jR,hr.inj,λc hc k off hl=>?_,?_,hr.vL,hr.qP,hr.base,hr.pass⟩
 .simp only[b3l]at hd;cases i with
  |zero=>simp at hu hd;subst hu hd;exact ht
  |succ i=>simp at hd
 .simp only[b3l,List.mem_map]at hc;obtain⟨c0,yI,rfl⟩:=hc;simp only[List.mem_filterMap]at hl;obtain⟨l0,hl0,he⟩:=hl;cases l0 with
  |t j=>
   simp only[b2k]at he;split at he
   .split at he<;>cases he
   .cases he
  |c k' a5W=>simp only[b2k,g1c]at he;cases he;exact hr.eC c0 yI k off hl0
 .obtain⟨vs,hl,h1,hap⟩:=hr.own;refine⟨vs,by simpa[b3l]using hl,λi c u hc hu=>?_,hap⟩;simp only[b3l,g1g]at hc;obtain⟨c0,yI,rfl⟩:=g0V.1 hc;have ho:=h1 i c0 u yI hu;refine⟨λl hl u' hu'=>?_,ho.own,ho.keys⟩;simp only[List.mem_filterMap]at hl;obtain⟨l0,hl0,he⟩:=hl;cases l0 with
  |t j=>
   simp only[b2k]at he;split at he
   .rename_i i' hrs;split at he
    .rename_i hij;cases he;obtain⟨rfl,aF⟩:=hij;simp[cP]at hu';subst hu';have d4P:fn.results=#[.tmp i']:=by apply Array.ext';simpa using hrs
     rw[results_tmp d4P a.tmps P w]at hv;cases hv;have c1N:i'<a.tmps.size:=by rw[hr.size];exact aF
     exact ho.eC _ hl0 _ (by simp[cP,c1N])
    .cases he
   .cases he
  |c k' a5W=>simp only[b2k,g1c]at he;subst he;exact ho.eC _ hl0 u' hu'
theorem CH.a0k{f:FuncId}{fn:Func}{c:Code}{n:Nat}{s0 s1:St}(hf:P.funcs[f]? =some fn)(hb:fn.body=some c)(hn:fn.ntmps=n){rs:List ResultVar}(hrs:fn.results.toList=rs)(hT:(s0.own.all λc=>c.2.all λl=>match l with| .t i=>decide (i<s0.tmps.length)|_=>true)=true)(h:SW P G c ⟨s0.tmps++List.replicate (n-s0.tmps.length) (.cI []),s0.H,s0.own⟩ λe s=>(e=.normal\/e=.ret)/\d0r P s rs s1):CH P G f s0 s1:=by
 subst hrs;intro base R μ args w hr;refine calls_of_wp hf hb ?_;have jZ:args.size=s0.tmps.length:=hr.size;have mW:Rel P G base R μ ⟨s0.tmps++List.replicate (n-s0.tmps.length) (.cI []),s0.H,s0.own⟩ {tmps:=args++Array.replicate (fn.ntmps-args.size) undef,defers:=[]} w:=by
  refine⟨rfl,by simp[jZ,hn],λi v d hiv hid=>?_,hr.jR,hr.inj,hr.eC,?_,hr.vL,hr.qP,hr.base,hr.pass⟩
  .simp only at hid;by_cases hi:i<s0.tmps.length
   .rw[g1h hi]at hid;rw[Array.getElem?_append_left (by omega)]at hiv;exact hr.tmps i v d hiv hid
   .rw[g1e (by omega),List.getElem?_replicate]at hid;split at hid<;>simp at hid;subst hid;rw[Array.getElem?_append_right (by omega),Array.getElem?_replicate]at hiv;split at hiv<;>simp at hiv;subst hiv;exact .cI #[] [] rfl (by simp)
  .obtain⟨vs,hl,h1,hap⟩:=hr.own;refine⟨vs,hl,λi c v hc hv=>?_,hap⟩;have ho:=h1 i c v hc hv;refine⟨λl hl u hu=>?_,ho.own,ho.keys⟩;cases l with
   |t j=>have hj:=g0Z.1 (g0Z.1 hT c (g1b hc)) _ hl;simp only[decide_eq_true_eq]at hj;simp only[cP]at hu;rw[Array.getElem?_append_left (by omega)]at hu;exact ho.eC _ hl u hu
   |c k off=>exact ho.eC _ hl u hu
 refine wp_mono (h base R μ _ w mW) λe a' w' ⟨s,R',μ',⟨he,a2m⟩,gD,hs⟩=>?_;unfold d0r at a2m;split at a2m
 .rename_i r kF;obtain⟨v,hv1,hv2⟩:=a1N gD kF;have a6k:a'.defers=[]/\∃v,(results fn a'.tmps).run P w'=.ok v w'/\∃v' R' μ',Ending.returned v=.returned v'/\Rel P G base R' μ' s1 {tmps:=#[v'],defers:=[]} w'/\Step base R w R' w':=
   ⟨gD.defers,v,hv1,v,R',μ',rfl,(gD.ret hv1 hv2).a1H a2m,hs⟩
  rcases he with rfl|rfl
  .exact a6k
  .exact a6k
 .exact a2m.elim
theorem CH.aX{f:FuncId}{fn:Func}{c:Code}{n:Nat}{s0 s1:St}(hf:P.funcs[f]? =some fn)(hb:fn.body=some c)(hn:fn.ntmps=n){rs:List ResultVar}(hrs:fn.results.toList=rs)(hT:(s0.own.all λc=>c.2.all λl=>match l with| .t i=>decide (i<s0.tmps.length)|_=>true)=true)(h:VK P G [.code c] .normal ⟨s0.tmps++List.replicate (n-s0.tmps.length) (.cI []),s0.H,s0.own⟩ λe s=>(e=.normal\/e=.ret)/\d0r P s rs s1):CH P G f s0 s1:=CH.a0k hf hb hn hrs hT (a5p c _ _ (c4I h))
end
end Go.VM
end
section
namespace Go.VM
open Go Go.RowKit
def wP(s:St):List (TypeId×List Loc)->List (TypeId×List Loc)->Option (List (TypeId×List Loc))
 |own,[]=>some own
 |own,c::r=>if b5z s c then wP s own r else match a0T c own with
  |some own1=>wP s own1 r
  |none=>none
def gM(K:List (Nat×Nat))(dst:Option Tmp):Loc->Option Loc
 | .t i=>if i=0 then dst.map Loc.t else none
 | .c k off=>some (.c (rk K k) off)
def kC(K:List (Nat×Nat))(dst:Option Tmp)(c:TypeId×List Loc):TypeId×List Loc:=(c.1,c.2.filterMap (gM K dst))
def b5N(K:List (Nat×Nat))(ls:List (Option Loc)):Loc->Option Loc
 | .t i=>(ls[i]?).join
 | .c k off=>some (.c (rk K k) off)
def qS(K:List (Nat×Nat))(ls:List (Option Loc))(c:TypeId×List Loc):TypeId×List Loc:=(c.1,c.2.filterMap (b5N K ls))
def a0C(n:Nat)(ls:List (Option Loc))(own:List (TypeId×List Loc)):Bool:=own.all λc=>c.2.all λl=>match l with
 | .t i=>(match ls[i]? with
  |some (some (.t t))=>decide (t<n)
  |_=>false)
 | .c _ _=>true
def dX:List (Nat×Nat)->List (TypeId×List Loc)->List (TypeId×List Loc)
 |[],own=>own
 |p::r,own=>dX r (dropKey p.2 own)
def bS(K:List (Nat×Nat)):List (Nat×bD)->List (Nat×bD)->List (Nat×bD)
 |[],H=>H
 |p::r,H=>bS K r (bU (rk K p.1) (dD K p.2) H)
def cX(K:List (Nat×Nat))(H:List (Nat×bD)):List (Nat×bD):=H.map λp=>(rk K p.1,dD K p.2)
def jN(dst:Option Tmp)(d:DV)(l:List DV):List DV:=match dst with
 |some i=>l.set i d
 |none=>l
def gI(dst:Option Tmp)(own:List (TypeId×List Loc)):List (TypeId×List Loc):=match dst with
 |some d=>cZ (.t d) own
 |none=>own
def bG(K:List (Nat×Nat))(dst:Option Tmp)(st:St)(rest:List (TypeId×List Loc))(r:DV)(H1:List (Nat×bD))(own1:List (TypeId×List Loc)):St:=
 {tmps:=jN dst (bF K r) st.tmps,H:=bS K H1 st.H,own:=own1.map (kC K dst)++gI dst (dX K rest)}
def aL(K:List (Nat×Nat))(s0:St)(r:DV)(H1:List (Nat×bD)):Bool:=
 decide ((K.map (·.1)).Nodup)&&decide ((K.map (·.2)).Nodup)&&(K.all λp=>decide (100000<=p.1))&&(s0.tmps.all (aQ K))&&
 (s0.H.all λp=>(K.any λq=>q.1==p.1)&&aW K p.2&&(getKey p.1 H1).isSome)&&bH s0.H s0.own&&
 aQ K r&&decide ((H1.map (·.1)).Nodup)&&(H1.all λp=>aW K p.2&&(getKey p.1 s0.H).isSome)
theorem jO{k:Nat}{o:bD}:∀ {H:List (Nat×bD)},getKey k H=some o->(k,o)∈H
 |[],h=>by simp[getKey]at h
 |(k',o')::r,h=>by
  unfold getKey at h;split at h
  .rename_i he;cases h;subst he;exact .head _
  .exact .tail _ (jO h)
theorem getKey_of_mem{k:Nat}{o:bD}:∀ {H:List (Nat×bD)},(H.map (·.1)).Nodup->(k,o)∈H->getKey k H=some o
 |(k',o')::r,hn,h=>by
  simp only[List.map_cons,List.nodup_cons]at hn;unfold getKey;rcases List.mem_cons.1 h with he|h
  .cases he;simp
  .have:k'≠k:=λe=>hn.1 (by rw[e];exact List.mem_map.2 ⟨(k,o),h,rfl⟩);rw[if_neg this];exact getKey_of_mem hn.2 h
theorem zT{K:List (Nat×Nat)}{k:Nat}{o:bD}:∀ {l H:List (Nat×bD)},getKey k (bS K l H)=some o->(∃p∈l,k=rk K p.1/\o=dD K p.2)\/((∀p∈l,k≠rk K p.1)/\getKey k H=some o)
 |[],H,h=>.inr ⟨by simp,h⟩
 |p::r,H,h=>by
  rcases zT (l:=r) h with⟨q,h1,h2⟩|⟨h1,h2⟩
  .exact .inl ⟨q,.tail _ h1,h2⟩
  .rw[jA]at h2;split at h2
   .rename_i he;cases h2;exact .inl ⟨p,.head _,he.symm,rfl⟩
   .rename_i eU;exact .inr ⟨λq hq=>by rcases List.mem_cons.1 hq with rfl|hq;exact λe=>eU e.symm;exact h1 q hq,h2⟩
theorem a6s{K:List (Nat×Nat)}{k:Nat}:∀ {l H:List (Nat×bD)},(∃o,getKey k H=some o)->∃o,getKey k (bS K l H)=some o
 |[],H,h=>h
 |p::r,H,⟨o,h⟩=>a6s (l:=r) (by
   rw[jA];split
   .exact⟨_,rfl⟩
   .exact⟨o,h⟩)
theorem b5O{K:List (Nat×Nat)}:∀ {own:List (TypeId×List Loc)} {i:Nat} {c:TypeId×List Loc},(dX K own)[i]? =some c->∃c',own[i]? =some c'/\c.1=c'.1/\∀x,x∈c.2->x∈c'.2/\∀p∈K,x.a0a p.2=false:=by
 induction K with
 |nil=>intro own i c h;exact⟨c,h,rfl,λx hx=>⟨hx,by simp⟩⟩
 |cons p r ih=>intro own i c h;obtain⟨c1,h1,h2,h3⟩:=ih h;obtain⟨c0,g1,g2,g3⟩:=a0c h1;refine⟨c0,g1,h2.trans g2,λx hx=>?_⟩;obtain⟨q1,q2⟩:=h3 x hx;have q3:=(g3 x).1 q1;exact⟨q3.1,λy hy=>by rcases List.mem_cons.1 hy with rfl|hy;exact q3.2;exact q2 y hy⟩
theorem b3m{dst:Option Tmp}{own:List (TypeId×List Loc)}{i:Nat}{c:TypeId×List Loc}(h:(gI dst own)[i]? =some c):∃c',own[i]? =some c'/\c.1=c'.1/\∀x,x∈c.2->x∈c'.2/\∀d,dst=some d->x≠ .t d:=by
 cases dst with
 |none=>exact⟨c,h,rfl,λx hx=>⟨hx,by simp⟩⟩
 |some d=>obtain⟨c',h1,h2,h3⟩:=rG h;exact⟨c',h1,h2,λx hx=>⟨((h3 x).1 hx).1,λd' hd=>by cases hd;exact((h3 x).1 hx).2⟩⟩
theorem c8v(K:List (Nat×Nat)):∀own,(dX K own).length=own.length:=by
 induction K with
 |nil=>intro own;rfl
 |cons p r ih=>intro own;simp[dX,ih,dropKey]
theorem c4Z(dst:Option Tmp)(own:List (TypeId×List Loc)):(gI dst own).length=own.length:=by cases dst<;>simp[gI,cZ]
section
variable {P:Program} {G:GT} {st:St} {base:dH} {R:Nat->Nat->Prop} {μ:Nat->Nat} {a:Act} {w:World}
theorem a6t(hr:Rel P G base R μ st a w):∀(cs own own1:List (TypeId×List Loc)) (vs:List Value),c8h P base R μ st a w own vs->wP st own cs=some own1->
  ∃vsT vs1:List Value,vsT.length=cs.length/\(∀(i:Nat) (c:TypeId×List Loc) (v:Value),cs[i]? =some c->vsT[i]? =some v->a4l P base R μ st a w c v)/\vsT.Pairwise a5h/\c8h P base R μ st a w own1 vs1/\
   (∀v∈vsT,∀u∈vs1,a5h v u)/\(∀x∈vs1,x∈vs)/\∀x∈vsT,bK x=none\/x∈vs
 |[],own,own1,vs,h,ht=>by simp only[wP,g1c]at ht;subst ht;exact⟨[],vs,rfl,by simp,.nil,h,by simp,λ_ h=>h,by simp⟩
 |c::r,own,own1,vs,h,ht=>by
  unfold wP at ht;split at ht
  .rename_i hn;obtain⟨vsT,vs1,q1,q2,q3,q4,q5,q6,q7⟩:=a6t hr r own own1 vs h ht;have hex:∃v,a4l P base R μ st a w c v/\bK v=none:=by
    by_cases hx:∃l∈c.2,∃u,cP a w μ l=some u
    .obtain⟨l,hl,u,hu⟩:=hx;unfold b5z at hn;split at hn
     .rename_i he;rw[he]at hl;cases hl
     .rename_i l' he;rw[he]at hl;simp at hl;subst hl;obtain⟨ao,rfl⟩:=b9O hr hn hu;have hs:bK (.slice ao 0 0)=none:=by cases ao<;>rfl
      exact⟨.slice ao 0 0,⟨λl2 hl2 u2 hu2=>by rw[he]at hl2;simp at hl2;subst hl2;rw[hu]at hu2;exact(Option.some.inj hu2).symm,.inl ⟨ao,rfl⟩,λk o _=>by rw[hs];simp⟩,hs⟩
     .cases hn
    .exact⟨.slice none 0 0,⟨λl hl u hu=>absurd ⟨l,hl,u,hu⟩ hx,.inl ⟨none,rfl⟩,λk o _=>by simp[bK]⟩,rfl⟩
   obtain⟨v,hv1,hv2⟩:=hex;refine⟨v::vsT,vs1,by simp[q1],λi c' u hc hu=>?_,List.pairwise_cons.2 ⟨λx _ g hg=>(by rw[hv2]at hg;cases hg),q3⟩,q4,λx hx u hu=>?_,q6,λx hx=>?_⟩
   .cases i with
    |zero=>simp at hc hu;subst hc hu;exact hv1
    |succ i=>simp at hc hu;exact q2 i c' u hc hu
   .rcases List.mem_cons.1 hx with rfl|hx
    .exact λg hg=>by rw[hv2]at hg;cases hg
    .exact q5 x hx u hu
   .rcases List.mem_cons.1 hx with rfl|hx
    .exact .inl hv2
    .exact q7 x hx
  .split at ht
   .rename_i f0u htk;obtain⟨v,vs2,p1,p2,p3,p4,p5⟩:=h.take htk;obtain⟨vsT,vs1,q1,q2,q3,q4,q5,q6,q7⟩:=a6t hr r f0u own1 vs2 p2 ht;refine⟨v::vsT,vs1,by simp[q1],λi c' u hc hu=>?_,List.pairwise_cons.2 ⟨λx hx=>?_,q3⟩,q4,λx hx u hu=>?_,λx hx=>p3 x (q6 x hx),λx hx=>?_⟩
    .cases i with
     |zero=>simp at hc hu;subst hc hu;exact p1
     |succ i=>simp at hc hu;exact q2 i c' u hc hu
    .rcases q7 x hx with hs|hx'
     .exact λg _ hg=>by rw[hs]at hg;cases hg
     .exact p5 x hx'
    .rcases List.mem_cons.1 hx with rfl|hx
     .exact p5 u (q6 u hu)
     .exact q5 x hx u hu
    .rcases List.mem_cons.1 hx with rfl|hx
     .exact .inr p4
     .rcases q7 x hx with hs|hx'
      .exact .inl hs
      .exact .inr (p3 x hx')
   .cases ht
end
end Go.VM
end
section
namespace Go.VM
open Go Go.RowKit
section
variable {P:Program} {G:GT} {st:St}
theorem qO.mono{b b':dH}{R:Nat->Nat->Prop}{w:World}{e:TypeId}{v:Value}(h:qO P b R w e v)(hb:∀k,b k->b' k):qO P b' R w e v:=by
 rcases h with h|⟨g,n,cap,cur,h0,h1,h2⟩
 .exact .inl h
 .exact .inr ⟨g,n,cap,cur,h0,hb g h1,h2⟩
theorem oD.b3n{f:FuncId}{s0:St}{r:DV}{H1:List (Nat×bD)}{own1:List (TypeId×List Loc)}(hch:CH P G f s0 ⟨[r],H1,own1⟩)(K:List (Nat×Nat)){g0U:List DV}{ls:List (Option Loc)}{dst:Option Tmp}{rest:List (TypeId×List Loc)}(kU:aL K s0 r H1=true)(kO:WkT g0U (aR K s0.tmps))(hH:WkH st.H (cX K s0.H))(mN:wP st st.own (s0.own.map (qS K ls))=some rest)(kn:a0C st.tmps.length ls s0.own=true):
  oD P G f g0U ls st dst (bG K dst st rest r H1 own1):=by
 simp only[aL,g0W,decide_eq_true_eq,g0Z]at kU;obtain⟨⟨⟨⟨⟨⟨⟨⟨kf,ks⟩,kp⟩,kt⟩,kh⟩,kl⟩,kr⟩,kd⟩,k1⟩:=kU;intro base R μ a w args hr hl hv a8e;obtain⟨vs,rO⟩:=hr.own;obtain⟨vsT,vsR,t1,t2,t3,t4,t5,t6,t7⟩:=a6t hr _ _ _ vs ⟨rO.len,rO.one,rO.apart⟩ mN;have inK:∀k o,getKey k s0.H=some o->(K.any λp=>p.1==k)=true/\aW K o=true/\(getKey k H1).isSome=true:=λk o hk=>by
  have:=kh _ (jO hk)
  try simp only[g0W]at this
  exact⟨this.1.1,this.1.2,this.2⟩
 have inst:∀k o,getKey k s0.H=some o->∃o',getKey (rk K k) st.H=some o'/\WkO o' (dD K o):=λk o hk=>by
  have hm:=jO hk;have:∀ {l:List (Nat×bD)},WkH st.H (cX K l)->(k,o)∈l->∃o',getKey (rk K k) st.H=some o'/\WkO o' (dD K o):=by
   intro l
   induction l with
   |nil=>intro _ h;cases h
   |cons p l ih=>
    intro hw hp;obtain⟨h1,h2⟩:=hw;rcases List.mem_cons.1 hp with rfl|hp
    .exact h1
    .exact ih h2 hp
  exact this hH hm
 have big:∀k,(K.any λp=>p.1==k)=true->100000<=k:=λk hk=>by obtain⟨p,h1,h2,_⟩:=a1F hk;rw[<-h2];exact kp p h1
 have d5x:∀k k',(K.any λp=>p.1==k)=true->(K.any λp=>p.1==k')=true->rk K k=rk K k'->k=k':=λk k' h h' he=>by
  obtain⟨p,p1,p2,p3⟩:=a1F h;obtain⟨q,q1,q2,q3⟩:=a1F h';have hpq:p.2=q.2:=by rw[<-p3, <- q3,he]
  have:p=q:=a7v ks p1 q1 hpq;rw[<-p2, <- q2,this]
 have one:∀k,(getKey k H1).isSome=true->∃o,getKey k s0.H=some o:=λk hk=>by
  obtain⟨o,ho⟩:=Option.isSome_iff_exists.1 hk;have:=k1 _ (jO ho)
  try simp only[g0W]at this
  exact Option.isSome_iff_exists.1 this.2
 let kS:dH:=⟨λb=>w.heap.size<=b\/(∃k o,getKey k s0.H=some o/\b=μ (rk K k))\/(∃v∈vsT,bK v=some b),λk=>μ (rk K k)⟩
 have sub:∀b,kS b->base b:=λb hb=>by
  rcases hb with hb|⟨k,o,hk,rfl⟩|⟨v,hv,hs⟩
  .exact hr.base b hb
  .obtain⟨o',wD,_⟩:=inst k o hk;exact(hr.jR _ o' wD).1
  .obtain⟨i,hi⟩:=g1n hv;have vJ:i<(s0.own.map (qS K ls)).length:=by rw[<-t1];exact(g0X.1 hi).1
   exact(t2 i _ v (g1a vJ) hi).own.a2s hs
 have a1O:Rel P G kS R (λk=>μ (rk K k)) s0 {tmps:=args,defers:=[]} w:=by
  obtain⟨g1,g2⟩:=a0h kO;rw[sG]at g1 g2;refine⟨rfl,by show args.size=s0.tmps.length;rw[List.length_map]at g1;omega,λi v d hiv hid=>?_,λk o hk=>?_,λk k' o o' hk hk' he=>?_,λc hc k off hl'=>?_,⟨vsT,by simpa using t1,λi c v hc hv'=>?_,t3⟩,hr.vL.up sub,hr.qP,λb hb=>.inl hb,λk hk=>rfl⟩
  .obtain⟨d0,hd0,b5P⟩:=g2 i (bF K d) (by rw[g1g,hid];rfl);have hva:=hv i d0 hd0;have hav:args.getD i undef=v:=by simp only at hiv;simp[g0Y,hiv]
   rw[hav]at hva;have d5y:TV R μ w v (bF K d):=by
    rcases b5P with hc|hc|⟨hc1,hc2⟩
    .rw[hc];exact .undef _
    .rw[hc];exact hva
    .rw[hc2];rw[hc1]at hva;obtain⟨ao,rfl⟩:=hva.a9b.kT;exact .d _ _ (.emp _ _)
   exact d5y.ren (μ:=μ) (λ_ _=>rfl) (kt d (g1b hid))
  .obtain⟨q1,q2,_⟩:=inK k o hk;obtain⟨o',wD,hw⟩:=inst k o hk;obtain⟨p1,p2,p3⟩:=hr.jR _ o' wD;exact⟨.inr (.inl ⟨k,o,hk,rfl⟩),p2,(b4P hw p3).ren (λ_ _=>rfl) q2⟩
  .obtain⟨o1,h1,_⟩:=inst k o hk;obtain⟨o2,h2,_⟩:=inst k' o' hk';exact d5x k k' (inK k o hk).1 (inK k' o' hk').1 (hr.inj _ _ o1 o2 h1 h2 he)
  .have:=g0Z.1 (g0Z.1 kl c hc) _ hl';exact Option.isSome_iff_exists.1 this
  .have ho:=t2 i (qS K ls c) v (by rw[g1g,hc];rfl) hv';refine⟨λl hl' u hu=>?_,?_,λk o hk=>?_⟩
   .have hn:=g0Z.1 (g0Z.1 kn c (g1b hc)) l hl';cases l with
    |t j=>
     simp only at hn;split at hn
     .rename_i t hj;simp only[decide_eq_true_eq]at hn;have ht:t<a.tmps.size:=by rw[hr.size];exact hn
      have hlv:cP a w μ (.t t)=some a.tmps[t]:=by simp[cP,ht]
      have h1:=a8e j _ hj _ hlv;have h2:=ho.eC (.t t) (List.mem_filterMap.2 ⟨.t j,hl',by simp[b5N,hj]⟩) _ hlv;simp only[cP]at hu;have h3:args.getD j undef=u:=by simp[g0Y,hu]
      rw[<-h3, <- h1,h2]
     .cases hn
    |c k off=>exact ho.eC (.c (rk K k) off) (List.mem_filterMap.2 ⟨.c k off,hl',rfl⟩) u hu
   .rcases ho.own with h|⟨g,n,cap,cur,h0,h1,h2,h3,h4⟩
    .exact .inl h
    .by_cases yI:cap=0
     .subst yI;have:n=0:=by omega
      subst this;exact .inl ⟨_,h0⟩
     .exact .inr ⟨g,n,cap,cur,h0,.inr (.inr ⟨v,g1b hv',by rw[h0];simp[bK,yI]⟩),h2,h3,h4⟩
   .obtain⟨o',wD,_⟩:=inst k o hk;exact ho.keys _ o' wD
 refine(hch kS R (λk=>μ (rk K k)) args w a1O).mono λe w' ⟨v,R',ν,he,b5Q,hs⟩=>⟨v,R',μ,he,?_,⟨hs.below.mono sub,hs.mono,λb o h1 h2=>sub b (hs.new b o h1 h2),hs.cells⟩⟩;have hsb:Step base R w R' w':=⟨hs.below.mono sub,hs.mono,λb o h1 h2=>sub b (hs.new b o h1 h2),hs.cells⟩;have hν:∀k,(K.any λp=>p.1==k)=true->ν k=μ (rk K k):=λk hk=>b5Q.pass k (big k hk);have k1':∀p∈H1,aW K p.2=true/\(∃o,getKey p.1 s0.H=some o)/\getKey p.1 H1=some p.2:=λp hp=>by
  have:=k1 p hp
  try simp only[g0W]at this
  exact⟨this.1,Option.isSome_iff_exists.1 this.2,getKey_of_mem kd hp⟩
 have kept:∀b, ¬kS b->w'.heap[b]? =w.heap[b]? /\∀off,R' b off->R b off:=λb hb=>⟨hs.below.block b hb,λoff h=>by
  by_cases hx:R b off
  .exact hx
  .exact absurd (hs.new b off h hx) hb⟩
 have c8w:∀k o,(∀p∈H1,k≠rk K p.1)->getKey k st.H=some o-> ¬kS (μ k):=λk o hk ho hb=>by
  rcases hb with hb|⟨k0,o0,h0,he'⟩|⟨u,hu,hsp⟩
  .have:=(hr.jR k o ho).2.2.lt;omega
  .obtain⟨o',wD,_⟩:=inst k0 o0 h0;have:=hr.inj k (rk K k0) o o' ho wD he';obtain⟨o1,ho1⟩:=Option.isSome_iff_exists.1 (inK k0 o0 h0).2.2;exact hk (k0,o1) (jO ho1) this
  .obtain⟨i,hi⟩:=g1n hu;have vJ:i<(s0.own.map (qS K ls)).length:=by rw[<-t1];exact(g0X.1 hi).1
   exact(t2 i _ u (g1a vJ) hi).keys k o ho hsp
 have known:∀k o,getKey k (bS K H1 st.H)=some o->∃o',getKey k st.H=some o':=λk o hk=>by
  rcases zT hk with⟨p,hp,rfl,_⟩|⟨_,h⟩
  .obtain⟨_,⟨o0,h0⟩,_⟩:=k1' p hp;obtain⟨o',wD,_⟩:=inst _ _ h0;exact⟨o',wD⟩
  .exact⟨o,h⟩
 obtain⟨vs1,hv1⟩:=b5Q.own;have hd0:∀u,(#[v]:Array Value)[0]? =some u->u=v:=λu hu=>by simp at hu;exact hu.symm
 refine⟨by cases dst<;>exact hr.defers,?_,λi u d hu hd=>?_,λk o hk=>?_,λk k' o o' hk hk' he'=>?_,λc hc k off hl'=>?_,⟨vs1++vsR,?_,λi c u hc hu=>?_,?_⟩,hr.vL.bN hsb,b5Q.qP,λb hb=>hr.base b (Nat.le_trans hs.below.size hb),hr.pass⟩
 .cases dst with
  |none=>exact hr.size
  |some t=>simp[bG,jN,Act.put,hr.size]
 ·
  have kF:TV R' μ w' v (bF K r):=(b5Q.tmps 0 v r rfl rfl).b9E hν kr;cases dst with
  |none=>exact(hr.tmps i u d hu hd).bN hsb
  |some t=>
   simp only[bG,jN,Act.put]at hu hd;by_cases hti:t=i
   .subst hti;have h1:t<st.tmps.length:=by
     by_cases aF:t<st.tmps.length
     .exact aF
     .have tS:(st.tmps.set t (bF K r))[t]? =none:=List.getElem?_eq_none (by rw[List.length_set];exact Nat.le_of_not_lt aF);rw[tS]at hd;cases hd
    have h2:t<a.tmps.size:=by rw[hr.size];exact h1
    simp[h1]at hd;simp[h2]at hu;subst hu hd;exact kF
   .rw[Array.getElem?_setIfInBounds_ne hti]at hu;rw[List.getElem?_set_ne hti]at hd;exact(hr.tmps i u d hu hd).bN hsb
 ·
  simp only[bG]at hk;rcases zT hk with⟨p,hp,rfl,rfl⟩|⟨hk1,hk2⟩
  .obtain⟨q1,⟨o0,h0⟩,q3⟩:=k1' p hp;obtain⟨p1,p2,p3⟩:=b5Q.jR p.1 p.2 q3;have hk0:=(inK _ _ h0).1;rw[hν _ hk0]at p1 p2 p3;exact⟨sub _ p1,p2,p3.b9E hν q1⟩
  .obtain⟨p1,p2,p3⟩:=hr.jR k o hk2;obtain⟨e1,e2⟩:=kept _ (c8w k o hk1 hk2);exact⟨p1,λoff h=>p2 off (e2 off h),p3.bN hsb e1⟩
 .obtain⟨o1,h1⟩:=known k o hk;obtain⟨o2,h2⟩:=known k' o' hk';exact hr.inj k k' o1 o2 h1 h2 he'
 ·
  simp only[bG,List.mem_append]at hc;rcases hc with hc|hc
  .obtain⟨c0,yI,rfl⟩:=List.mem_map.1 hc;obtain⟨l0,hl0,he0⟩:=List.mem_filterMap.1 hl';cases l0 with
   |t j=>
    simp only[gM]at he0;split at he0
    .cases dst<;>simp at he0
    .cases he0
   |c k0 xO=>simp only[gM,g1c]at he0;cases he0;obtain⟨o,ho⟩:=b5Q.eC c0 yI k0 off hl0;have hm:=jO ho;obtain⟨_,⟨o0,h0⟩,_⟩:=k1' _ hm;obtain⟨o',wD,_⟩:=inst _ _ h0;exact a6s ⟨o',wD⟩
  .obtain⟨i,hi⟩:=g1n hc;obtain⟨c1,g1,_,g3⟩:=b3m hi;obtain⟨c2,f1,_,f3⟩:=b5O g1;have hx:=(f3 _ (g3 _ hl').1).1;have f4k:=g1b f1;obtain⟨o,ho⟩:=hr.eC c2 (a7w mN c2 f4k) k off hx;exact a6s ⟨o,ho⟩
 .have:=hv1.len;have:=t4.len;simp only[bG,List.length_append,List.length_map,c4Z,c8v];simp at *;omega
 ·
  simp only[bG]at hc;have h1l:vs1.length=own1.length:=hv1.len;by_cases hi:i<own1.length
  .rw[g1h (by simpa using hi),g1g]at hc;rw[g1h (by omega)]at hu;obtain⟨c0,yI,rfl⟩:=g0V.1 hc;have ho:=hv1.one i c0 u yI hu;refine⟨λl hl' u' hu'=>?_,ho.own.mono sub,λk o hk=>?_⟩
   .obtain⟨l0,hl0,he0⟩:=List.mem_filterMap.1 hl';cases l0 with
    |t j=>
     simp only[gM]at he0;split at he0
     .rename_i hj;subst hj;cases dst with
      |none=>simp at he0
      |some t=>
       simp at he0;subst he0;simp only[cP,Act.put]at hu';by_cases aF:t<a.tmps.size
       .simp[aF]at hu';subst hu';exact ho.eC (.t 0) hl0 _ (by simp[cP])
       .simp[aF]at hu'
     .cases he0
    |c k0 xO=>simp only[gM,g1c]at he0;subst he0;obtain⟨o,hoo⟩:=b5Q.eC c0 (g1b yI) k0 xO hl0;obtain⟨_,⟨o0,h0⟩,_⟩:=k1' _ (jO hoo);have hk0:=(inK _ _ h0).1;refine ho.eC (.c k0 xO) hl0 u' ?_;simp only[cP]at hu' |-;rw[hν _ hk0];cases dst<;>exact hu'
   .simp only[bG]at hk;rcases zT hk with⟨p,hp,rfl,_⟩|⟨hk1,hk2⟩
    .obtain⟨_,⟨o0,h0⟩,q3⟩:=k1' p hp;have:=ho.keys p.1 p.2 q3;rw[hν _ (inK _ _ h0).1]at this;exact this
    .intro hsp;exact c8w k o hk1 hk2 (ho.own.a2s hsp)
  .rw[g1e (by simp;omega)]at hc;rw[g1e (by omega)]at hu;simp only[List.length_map]at hc;rw[h1l]at hu;obtain⟨c1,g1,g2,g3⟩:=b3m hc;obtain⟨c2,f1,f2,f3⟩:=b5O g1;have ho:=t4.one _ c2 u f1 hu;have hum:=g1b hu;have out:∀g,bK u=some g-> ¬kS g:=λg hg hb=>by
    rcases hb with hb|⟨k0,o0,h0,he'⟩|⟨x,hx,hsp⟩
    .have:=ho.own.lt hg;omega
    .obtain⟨o',wD,_⟩:=inst k0 o0 h0;exact ho.keys _ o' wD (by rw[hg,he'])
    .exact t5 x hx u hum g hsp hg
   refine⟨λl hl' u' hu'=>?_,?_,λk o hk=>?_⟩
   .obtain⟨q1,q2⟩:=g3 l hl';obtain⟨q3,q4⟩:=f3 l q1;refine ho.eC l q3 u' ?_;rw[a8o q2]at hu';cases l with
    |t j=>exact hu'
    |c k off=>
     obtain⟨o,hoo⟩:=hr.eC c2 (a7w mN c2 (g1b f1)) k off q3;have tS:∀p∈H1,k≠rk K p.1:=λp hp e=>by obtain⟨_,⟨o0,h0⟩,_⟩:=k1' p hp;obtain⟨q,hq1,hq2,hq3⟩:=a1F (inK _ _ h0).1;have:=q4 q hq1;simp[Loc.a0a,e,hq3]at this
     rw[<-hu'];exact(World.cell?_of_block (kept _ (c8w k o tS hoo)).1).symm
   .have:qO P base R' w' c2.1 u:=ho.own.c9X (λg hg=>(kept g (out g hg)).1) (λg off hg h=>(kept g (out g hg)).2 off h);rw[g2,f2];exact this
   .obtain⟨o',wD⟩:=known k o hk;exact ho.keys k o' wD
 .refine List.pairwise_append.2 ⟨hv1.apart,t4.apart,λx hx y hy g hg hg'=>?_⟩;obtain⟨i,hi⟩:=g1n hx;have vJ:i<own1.length:=by rw[<-hv1.len];exact(g0X.1 hi).1
  have hb:=(hv1.one i _ x (g1a vJ) hi).own.a2s hg;obtain⟨j,hj⟩:=g1n hy;have hjl:j<rest.length:=by rw[<-t4.len];exact(g0X.1 hj).1
  have ho:=t4.one j _ y (g1a hjl) hj;rcases hb with hb|⟨k0,o0,h0,he'⟩|⟨z,hz,hsp⟩
  .have:=ho.own.lt hg';omega
  .obtain⟨o',wD,_⟩:=inst k0 o0 h0;exact ho.keys _ o' wD (by rw[hg',he'])
  .exact t5 z hz y hy g hsp hg'
where
 a7v {α β:Type} {f:α->β}:∀ {l:List α},(l.map f).Nodup->∀ {x y:α},x∈l->y∈l->f x=f y->x=y
  |z::l,hn,x,y,hx,hy,he=>by
   simp only[List.map_cons,List.nodup_cons,List.mem_map,not_exists,not_and]at hn;rcases List.mem_cons.1 hx with h1|h1
   .rcases List.mem_cons.1 hy with h2|h2
    .rw[h1,h2]
    .exact absurd (by rw[<-he,h1]) (hn.1 y h2)
   .rcases List.mem_cons.1 hy with h2|h2
    .exact absurd (by rw[he,h2]) (hn.1 x h1)
    .exact a7v hn.2 h1 h2 he
 c5a {c:TypeId×List Loc} {own own1:List (TypeId×List Loc)} (h:a0T c own=some own1):∀x∈own1,x∈own:=λx hx=>by obtain⟨pre,c0,post,rfl,rfl,_,_⟩:=a4t h;simp at hx|-;rcases hx with hx|hx<;>simp[hx]
 a7w {s:St}:∀ {cs own own1:List (TypeId×List Loc)},wP s own cs=some own1->∀x∈own1,x∈own
  |[],own,own1,h,x,hx=>by simp only[wP,g1c]at h;subst h;exact hx
  |c::r,own,own1,h,x,hx=>by
   unfold wP at h;split at h
   .exact a7w h x hx
   .split at h
    .rename_i f0u ht;exact c5a ht x (a7w h x hx)
    .cases h
theorem jB.mk{q ro:Bool}{ls:List (Option Loc)}{f:FuncId}{s0:St}{r:DV}{H1:List (Nat×bD)}{own1:List (TypeId×List Loc)}{g0U:List DV}{dst:Option Tmp}{all:Array Oper}{ops:List Oper}{k:List KI}{Q:Exit->St->Prop}{rest:List (TypeId×List Loc)}(he:Enters P f)(hch:CH P G f s0 ⟨[r],H1,own1⟩)(K:List (Nat×Nat))(kU:aL K s0 r H1=true)(kO:WkT g0U (aR K s0.tmps))(hH:WkH st.H (cX K s0.H))(mN:wP st st.own (s0.own.map (qS K ls))=some rest)(b8D:a0C st.tmps.length ls s0.own=true)(h:VK P G (.ops q all ops::k) .normal (bG K dst st rest r H1 own1) Q)(hro:ro=false:=by kernel_rfl):jB P G q ro f g0U ls dst all ops k st Q:=jB.mk' ⟨_,⟨he,oD.b3n hch K kU kO hH mN b8D⟩,h⟩ hro
theorem aC.own{q ro qn:Bool}{ls:List (Option Loc)}{f:FuncId}{s0:St}{r:DV}{own1:List (TypeId×List Loc)}{ds:List D}{dst:Option Tmp}{all:Array Oper}{ops:List Oper}{k:List KI}{Q:Exit->St->Prop}{rest:List (TypeId×List Loc)}(he:Enters P f)(hch:CH P G f s0 ⟨[r],[],own1⟩)(kU:aL [] s0 r []=true)(kO:WkT (ds.map .d) (aR [] s0.tmps))(hH:WkH st.H (cX [] s0.H))(mN:wP st st.own (s0.own.map (qS [] ls))=some rest)(b8D:a0C st.tmps.length ls s0.own=true)(h:VK P G (.ops q all ops::k) .normal (bG [] dst st rest r [] own1) Q)(hro:ro=false:=by kernel_rfl):aC P G q ro qn f ds ls dst all ops k st Q:=aC.eP ⟨_,⟨he,oD.b3n hch [] kU kO hH mN b8D⟩,h⟩ hro
theorem b3o{k:Nat}{o:bD}:∀ {H:List (Nat×bD)},getKey k H=some o->a1r k o H=H
 |[],h=>by simp[getKey]at h
 |(k',o')::r,h=>by
  unfold getKey at h;unfold a1r;split at h
  .rename_i he;cases h;subst he;simp
  .rename_i he;rw[if_neg he,b3o h]
theorem c5b{k:Nat}{o:bD}{H:List (Nat×bD)}(h:getKey k H=some o):bU k o H=H:=by unfold bU;rw[h];exact b3o h
theorem b0D{K:List (Nat×Nat)}:∀ {l H:List (Nat×bD)},(∀p∈l,getKey (rk K p.1) H=some (dD K p.2))->bS K l H=H
 |[],H,_=>rfl
 |p::r,H,h=>by unfold bS;rw[c5b (h p (.head _))];exact b0D λq hq=>h q (.tail _ hq)
theorem c1P{k:Nat}{ks:List Nat}{own:List (TypeId×List Loc)}(hk:k∈ks)(h:mY ks own=true):dropKey k own=own:=by
 unfold dropKey
 conv=>rhs;rw[<-List.map_id own]
 refine List.map_congr_left λc hc=>?_;have h1:=g0Z.1 h c hc;have:c.2.filter (λx=> !x.a0a k)=c.2:=List.filter_eq_self.2 λl hl=>by
  have h2:=g0Z.1 h1 l hl;cases l with
  |t i=>rfl
  |c k' off=>simp only[d4B,Bool.not_eq_true',List.contains_eq_mem,decide_eq_false_iff_not]at h2;simp only[Loc.a0a,Bool.not_eq_true',beq_eq_false_iff_ne,ne_eq];exact λe=>h2 (e▸hk)
 rw[this];rfl
theorem b3p:∀ {K:List (Nat×Nat)} {ks:List Nat} {own:List (TypeId×List Loc)},(∀p∈K,p.2∈ks)->mY ks own=true->dX K own=own
 |[],_,_,_,_=>rfl
 |p::r,ks,own,h,hn=>by unfold dX;rw[c1P (h p (.head _)) hn];exact b3p (λq hq=>h q (.tail _ hq)) hn
def a8w(H:List (Nat×bD)):List (Nat×bD)->Prop
 |[]=>True
 |p::r=>getKey p.1 H=some p.2/\a8w H r
theorem c5c:∀l:List DV,WkT l l
 |[]=>trivial
 |d::r=>⟨.inr (.inl rfl),c5c r⟩
theorem b9X{H:List (Nat×bD)}:∀ {l:List (Nat×bD)},a8w H l->WkH H l
 |[],_=>trivial
 |p::r,h=>⟨⟨p.2,h.1,by cases p.2<;>simp[WkO,c5c]⟩,b9X h.2⟩
theorem b5R{H:List (Nat×bD)}{K:List (Nat×Nat)}:∀ {l:List (Nat×bD)},a8w H (cX K l)->∀p∈l,getKey (rk K p.1) H=some (dD K p.2)
 |q::r,h,p,hp=>by
  rcases List.mem_cons.1 hp with rfl|hp
  .exact h.1
  .exact b5R h.2 p hp
theorem b3q{H H':List (Nat×bD)}{K:List (Nat×Nat)}{ks:List Nat}(ha:∀k∈ks,getKey k H'=getKey k H):∀ {l:List (Nat×bD)},(∀p∈l,rk K p.1∈ks)->a8w H (cX K l)->a8w H' (cX K l)
 |[],_,_=>trivial
 |p::r,hi,h=>⟨(ha _ (hi p (.head _))).trans h.1,b3q ha (λq hq=>hi q (.tail _ hq)) h.2⟩
theorem RO.b3n{f:FuncId}{tmps:List DV}{H0:List (Nat×bD)}{r:DV}{g0U:List DV}{H:List (Nat×bD)}(hch:CH P G f ⟨tmps,H0,[]⟩ ⟨[r],H0,[]⟩)(K:List (Nat×Nat))(kU:aL K ⟨tmps,H0,[]⟩ r H0=true)(kO:WkT g0U (aR K tmps))(hH:a8w H (cX K H0)):RO P G f g0U (K.map (·.2)) H (bF K r):=by
 intro st mU tS dst ls;have xE:∀p∈H0,rk K p.1∈K.map (·.2):=λp hp=>by simp only[aL,g0W,g0Z]at kU;obtain⟨⟨⟨⟨⟨_,hh⟩,_⟩,_⟩,_⟩,_⟩:=kU;obtain⟨q,q1,q2,q3⟩:=a1F (hh p hp).1.1;rw[q3];exact List.mem_map_of_mem q1
 have hH:a8w st.H (cX K H0):=b3q mU xE hH;have h:=oD.b3n (st:=st) (dst:=dst) (ls:=ls) hch K kU kO (b9X hH) (rest:=st.own) rfl rfl;have he:bG K dst st st.own r H0 []=finish st dst (bF K r) .no:=by unfold bG;rw[b0D (b5R hH),b3p (ks:=K.map (·.2)) (λp hp=>List.mem_map_of_mem hp) tS];cases dst<;>rfl
 rw[<-he];exact h
theorem jB.ro{q ro:Bool}{ls:List (Option Loc)}{f:FuncId}{tmps:List DV}{H0:List (Nat×bD)}{r:DV}{g0U:List DV}{dst:Option Tmp}{all:Array Oper}{ops:List Oper}{k:List KI}{Q:Exit->St->Prop}(he:Enters P f)(hch:CH P G f ⟨tmps,H0,[]⟩ ⟨[r],H0,[]⟩)(K:List (Nat×Nat))(kU:aL K ⟨tmps,H0,[]⟩ r H0=true)(kO:WkT g0U (aR K tmps))(hH:a8w st.H (cX K H0))(tS:mY (K.map (·.2)) st.own=true)(hks:((K.map (·.2)).all λk=>(getKey k st.H).isSome)=true)(h:VK P G (.ops q all ops::k) .normal (finish st dst (bF K r) .no) Q)(hkl:pK (bF K r)=true:=by rfl):jB P G q ro f g0U ls dst all ops k st Q:=jB.ro' he (RO.b3n hch K kU kO hH) tS hks hkl h
end
attribute [simp] b5N qS a0C a8w mY d4B bG bF aR rk dD cX gM kC dX bS jN gI wP aL aQ aV aW b3l b2k d0r a2F d5w
end Go.VM
end
end
section
section
namespace Go.Proofs.YtjpodcmhcenjjaaGreatDoor
open Go Go.VM
variable {G:GT}
def inB(n:Int):Bool:=decide (-1000000000000<=n)&&decide (n<=1000000000000)
theorem c5d:VM.Enters prog 228:=.mk func228 rfl
theorem b9Y:VM.Enters prog 258:=.mk func258 rfl
theorem a3h:VM.Enters prog 206:=.mk func206 rfl
theorem d0t(n:Int):CS prog G 228 [.int .i64 n] (.d (.bool (inB n))) none:=by refine CS.aX func228 rfl ntmps228 rfl ?_;by_cases h: -1000000000000<=n<;>simp[inB,h]
theorem c5e(n:Int):CS prog G 258 [.int .i64 n] (.d (.bool (inB n))) none:=by refine CS.aX func258 rfl ntmps258 rfl ?_;by_cases h: -1000000000000<=n<;>simp[inB,h]
def chk(n:Int)(ok:Bool):Int×Bool:=if ok&&inB n then(n,true) else(0,false)
theorem a4x(n:Int)(ok:Bool):CS prog G 206 [.int .i64 n,.bool ok] (.cI [.int .i64 (chk n ok).1,.bool (chk n ok).2]) none:=by
 refine CS.aX func206 rfl ntmps206 rfl ?_;cases ok
 .simp[chk]
 .simp;refine aC.mk c5d (d0t _) ?_;cases h:inB n<;>simp[chk,h]
end Go.Proofs.YtjpodcmhcenjjaaGreatDoor
end
section
namespace Go.Proofs.YtjpodcmhcenjjaaGreatDoor
open Go Go.VM
def xP(c:UInt8):Bool:=decide (48<=c.toNat)&&decide (c.toNat<=57)
def b8E(a:Nat)(l:List UInt8):Nat:=l.foldl (λa c=>10*a+(c.toNat-48)) a
def jE(l:List UInt8):Nat:=b8E 0 l
theorem b9Z(l:List UInt8)(c:UInt8):jE (l++[c])=10*jE l+(c.toNat-48):=by simp[jE,b8E]
theorem a3I:jE []=0:=rfl
theorem yW{l:List UInt8}{i:Nat}(h:i<l.length):jE (l.take (i+1))=10*jE (l.take i)+(l[i].toNat-48):=by rw[g1l h,b9Z]
theorem vO{c:UInt8}:xP c=true↔48<=c.toNat/\c.toNat<=57:=by simp[xP]
def b2l(s:List UInt8):Bool:=decide (s.head? =some 45)
def rK(s:List UInt8):List UInt8:=if b2l s then s.tail else s
def sgn(b:Bool)(v:Nat):Int:=if b then -(v:Int) else v
def sI(s:List UInt8):Bool:=decide (1<=(rK s).length)&&decide ((rK s).length<=13)&& !(decide ((rK s).head? =some 48)&&(b2l s||decide (1<(rK s).length)))
def rV(s:List UInt8):Int×Bool:=if sI s&&(rK s).all xP then chk (sgn (b2l s) (jE (rK s))) true else(0,false)
theorem a1n{s:List UInt8}(h:(rK s).all xP=false):rV s=(0,false):=by simp[rV,h]
end Go.Proofs.YtjpodcmhcenjjaaGreatDoor
end
section
namespace Go.Proofs
open Go.Shelf
def b3r:Go.Shelf.Ren:=⟨λ|156=>265|165=>274|166=>275|169=>276|240=>283|241=>284|276=>288|277=>289|n=>n,λ|31=>39|9=>9|3=>3|4=>4|0=>0|20=>20|72=>270|76=>274|70=>267|37=>268|75=>273|127=>277|164=>278|5=>5|80=>132|n=>n,λ|n=>n⟩
theorem d0u:Go.Proofs.Lays.n156 prog b3r:={
 mixed:=by kernel_rfl
 f156:=func265.trans (congrArg some (by kernel_rfl))
 f165:=func274.trans (congrArg some (by kernel_rfl))
 f166:=func275.trans (congrArg some (by kernel_rfl))
 f169:=func276.trans (congrArg some (by kernel_rfl))
 f240:=func283.trans (congrArg some (by kernel_rfl))
 f241:=func284.trans (congrArg some (by kernel_rfl))
 f276:=func288.trans (congrArg some (by kernel_rfl))
 f277:=func289.trans (congrArg some (by kernel_rfl))
 t0:=underlying0
 a0:=isAgg0
 z0:=sizeOf0
 v0:=zeroValue0
 t3:=underlying3
 a3:=isAgg3
 z3:=sizeOf3
 v3:=zeroValue3
 t4:=underlying4
 a4:=isAgg4
 z4:=sizeOf4
 v4:=zeroValue4
 t9:=underlying9
 a9:=isAgg9
 z9:=sizeOf9
 v9:=zeroValue9
 t20:=underlying20
 a20:=isAgg20
 z20:=sizeOf20
 v20:=zeroValue20
 t31:=underlying39
 a31:=isAgg39
 z31:=sizeOf39
 v31:=zeroValue39
 t37:=underlying268
 a37:=isAgg268
 z37:=sizeOf268
 v37:=zeroValue268
 t70:=underlying267
 a70:=isAgg267
 z70:=sizeOf267
 v70:=zeroValue267
 t72:=underlying270
 a72:=isAgg270
 z72:=sizeOf270
 v72:=zeroValue270
 t75:=underlying273
 a75:=isAgg273
 z75:=sizeOf273
 v75:=zeroValue273
 t76:=underlying274
 a76:=isAgg274
 z76:=sizeOf274
 v76:=zeroValue274
 t127:=underlying277
 a127:=isAgg277
 z127:=sizeOf277
 v127:=zeroValue277
 t164:=underlying278
 a164:=isAgg278
 z164:=sizeOf278
 v164:=zeroValue278}
theorem a2G:Builder.Extra prog b3r:={
 sizeBuilder:=by kernel_rfl
 liesBuilder:=by kernel_rfl
 t5:=underlying5
 a5:=isAgg5
 z5:=sizeOf5
 v5:=zeroValue5
 infoByte:=by kernel_rfl
 cellsByte:=by kernel_rfl
 sizeByte:=by kernel_rfl
 neB5:=by decide}
open Go.RowKit in
theorem strings_Join_none(a:Option Addr)(c:Nat)(sep:ByteArray)(w:World):
  Calls prog 265 #[.slice a 0 c,.string sep] w λe w'=>e=.returned (.string ⟨#[]⟩)/\w'=w:=Any.strings_Join_none d0u a2G a c sep w
open Go.RowKit in
theorem strings_Join(bk o c:Nat)(xs:List ByteArray)(sep:ByteArray)(w:World)(e7e:∀(j:Nat) x,xs[j]? =some x->w.cell? ⟨bk,o+j,none⟩=some (.string x))(hbk:bk<w.heap.size)(hN:xs.length<=140737488355328)(b5h:xs.length<=c)(hlen:(Lib.join (xs.map (·.data.toList)) sep.data.toList).length<=140737488355328):
  Calls prog 265 #[.slice (some ⟨bk,o,none⟩) xs.length c,.string sep] w λe w'=>e=.returned (.string ⟨(Lib.join (xs.map (·.data.toList)) sep.data.toList).toArray⟩)/\Below w.heap.size w w':=Any.strings_Join d0u a2G bk o c xs sep w e7e hbk hN b5h hlen
def c5f:Go.Shelf.Ren:=⟨λ|161=>188|231=>202|227=>203|233=>204|235=>205|228=>225|197=>226|151=>227|260=>245|152=>246|137=>260|119=>261|224=>262|225=>263|217=>270|266=>281|n=>n,λ|9=>9|4=>4|3=>3|5=>5|117=>212|116=>211|0=>0|124=>215|105=>229|21=>21|119=>257|46=>258|139=>261|138=>260|n=>n,λ|3=>2|4=>3|n=>n⟩
theorem e1D:Go.Proofs.Lays.n161 prog c5f:={
 mixed:=by kernel_rfl
 f119:=func261.trans (congrArg some (by kernel_rfl))
 f137:=func260.trans (congrArg some (by kernel_rfl))
 f151:=func227.trans (congrArg some (by kernel_rfl))
 f152:=func246.trans (congrArg some (by kernel_rfl))
 f161:=func188.trans (congrArg some (by kernel_rfl))
 f197:=func226.trans (congrArg some (by kernel_rfl))
 f217:=func270.trans (congrArg some (by kernel_rfl))
 f224:=func262.trans (congrArg some (by kernel_rfl))
 f225:=func263.trans (congrArg some (by kernel_rfl))
 f227:=func203.trans (congrArg some (by kernel_rfl))
 f228:=func225.trans (congrArg some (by kernel_rfl))
 f231:=func202.trans (congrArg some (by kernel_rfl))
 f233:=func204.trans (congrArg some (by kernel_rfl))
 f235:=func205.trans (congrArg some (by kernel_rfl))
 f260:=func245.trans (congrArg some (by kernel_rfl))
 f266:=func281.trans (congrArg some (by kernel_rfl))
 t0:=underlying0
 a0:=isAgg0
 z0:=sizeOf0
 v0:=zeroValue0
 t3:=underlying3
 a3:=isAgg3
 z3:=sizeOf3
 v3:=zeroValue3
 t4:=underlying4
 a4:=isAgg4
 z4:=sizeOf4
 v4:=zeroValue4
 t5:=underlying5
 a5:=isAgg5
 z5:=sizeOf5
 v5:=zeroValue5
 t9:=underlying9
 a9:=isAgg9
 z9:=sizeOf9
 v9:=zeroValue9
 t21:=underlying21
 a21:=isAgg21
 z21:=sizeOf21
 v21:=zeroValue21
 t46:=underlying258
 a46:=isAgg258
 z46:=sizeOf258
 v46:=zeroValue258
 t105:=underlying229
 a105:=isAgg229
 z105:=sizeOf229
 v105:=zeroValue229
 t116:=underlying211
 a116:=isAgg211
 z116:=sizeOf211
 t117:=underlying212
 a117:=isAgg212
 z117:=sizeOf212
 v117:=zeroValue212
 t119:=underlying257
 a119:=isAgg257
 z119:=sizeOf257
 t124:=underlying215
 a124:=isAgg215
 z124:=sizeOf215
 v124:=zeroValue215
 t138:=underlying260
 a138:=isAgg260
 z138:=sizeOf260
 v138:=zeroValue260
 t139:=underlying261
 a139:=isAgg261
 z139:=sizeOf261
 v139:=zeroValue261
 g3:=by kernel_rfl
 g4:=by kernel_rfl}
open Go.RowKit in
theorem strings_TrimLeft_one(s:ByteArray)(c:UInt8)(hc:c.toNat<128)(w:World):
  Calls prog 188 #[.string s,.string ⟨#[c]⟩] w λe w'=>e=.returned (.string ⟨(Lib.trimLeftB s.data.toList c).toArray⟩)/\w'=w:=Any.strings_TrimLeft_one e1D s c hc w
def e4A:Go.Shelf.Ren:=⟨λ|206=>190|n=>n,λ|9=>9|4=>4|3=>3|n=>n,λ|n=>n⟩
def c8x:Go.Shelf.Ren:=⟨λ|99=>165|206=>190|n=>n,λ|9=>9|4=>4|3=>3|n=>n,λ|n=>n⟩
theorem e7f:Go.Proofs.Lays.n99 prog c8x:={
 mixed:=by kernel_rfl
 f99:=func165.trans (congrArg some (by kernel_rfl))
 f206:=func190.trans (congrArg some (by kernel_rfl))
 t3:=underlying3
 a3:=isAgg3
 z3:=sizeOf3
 v3:=zeroValue3
 t4:=underlying4
 a4:=isAgg4
 z4:=sizeOf4
 v4:=zeroValue4
 t9:=underlying9
 a9:=isAgg9
 z9:=sizeOf9
 v9:=zeroValue9}
open Go.RowKit Go.Lib in
theorem strings_HasPrefix(s p:ByteArray)(w:World):
  Calls prog 165 #[.string s,.string p] w λe w'=>e=.returned (.bool (Lib.hasPrefix s.data.toList p.data.toList))/\w'=w:=Any.strings_HasPrefix e7f s p w
end Go.Proofs
end
section
namespace Go.Proofs.YtjpodcmhcenjjaaGreatDoor
open Go Go.VM
variable {G:GT}
theorem c5g:VM.Enters prog 189:=.mk func189 rfl
theorem d0v{c:UInt8}(h:xP c=true):IntKind.i64.wrap (IntKind.u8.wrap ((c.toNat:Int)-48))=((c.toNat-48:Nat):Int):=by
 have:=vO.1 h;have e:IntKind.u8.wrap ((c.toNat:Int)-48)=((c.toNat-48:Nat):Int):=by unfold IntKind.wrap;simp[IntKind.bits,IntKind.signed];omega
 rw[e];exact wrap64 (by omega)
theorem a4y:∀(n:Nat) (l:List UInt8),l.length=n->(∀c∈l,xP c=true)->jE l<10 ^ n:=by
 intro n
 induction n with
 |zero=>intro l hl _;rw[List.length_eq_zero_iff.1 hl];simp[a3I]
 |succ n ih=>
  intro l hl h;have eU:l≠[]:=λe=>by rw[e]at hl;simp at hl
  have hs:=List.dropLast_concat_getLast eU;have hc:=vO.1 (h _ (List.getLast_mem eU));have:=ih l.dropLast (by simp;omega) λc hc=>h c (List.dropLast_subset _ hc);rw[<-hs,b9Z,Nat.pow_succ];omega
theorem d5z{s:List UInt8}(h:0<s.length):b2l s=decide (s[0].toNat=45):=by
 cases s with
 |nil=>simp at h
 |cons c r=>simp only[b2l,List.head?_cons,g1c,List.getElem_cons_zero];have:c=45↔c.toNat=45:=⟨λe=>by rw[e];rfl,λe=>UInt8.toNat.inj (by simpa using e)⟩;simp[this]
theorem d0w{s:List UInt8}(h:0<s.length):(s.head? =some 48)↔s[0].toNat=48:=by
 cases s with
 |nil=>simp at h
 |cons c r=>simp only[List.head?_cons,g1c,List.getElem_cons_zero];exact⟨λe=>by rw[e];rfl,λe=>UInt8.toNat.inj (by simpa using e)⟩
theorem c8y(s:List UInt8):CS prog G 189 [.str s] (.cI [.int .i64 (rV s).1,.bool (rV s).2]) none:=by
 refine CS.aX func189 rfl ntmps189 rfl ?_;by_cases h0:0<s.length;rotate_left
 .have:s=[]:=List.length_eq_zero_iff.1 (by omega);subst this;simp[rV,sI,rK,b2l]
 by_cases hc:s[0].toNat=45
 .obtain⟨ds,hds⟩:∃ds,s.tail=ds:=⟨_,rfl⟩;have a4z:b2l s=true:=by rw[d5z h0];simp[hc]
  have qD:rK s=ds:=by unfold rK;rw[a4z, <- hds];simp
  have hle:1<=s.length:=h0;simp[h0,hc,hds,hle];by_cases e0:ds.length=0
  .first
   |(exfalso;omega;done)
   |(have hf:sI s=false:=by unfold sI;rw[qD];simp[e0]
     have e1:ds=[]:=List.length_eq_zero_iff.1 e0;simp[qD,e1,rV,hf])
  have e1:0<ds.length:=by omega
  have e2: ¬ds=[]:=λe=>e0 (by rw[e];rfl);by_cases hl:13<ds.length
  .have hf:sI s=false:=by unfold sI;rw[qD];simp;omega
   simp[qD,e0,e2,hl,rV,hf]
  have hh:=d0w e1;by_cases hd:ds[0].toNat=48
  .have hf:sI s=false:=by simp[sI,qD,a4z,hh.2 hd]
   simp[e0,e1,e2,hl,hd,rV,hf]
  have hd': ¬ds.head? =some 48:=λe=>hd (hh.1 e);have a2H:sI s=true:=by simp[sI,qD,a4z,hd'];omega
  simp[e0,e1,e2,hl,hd];have hlen:ds.length<=13:=by have:=a2H;simp only[sI,g0W,decide_eq_true_eq,qD]at this;exact this.1.2
  refine SW.eX (ι:={i:Nat//i<=ds.length/\∀c∈ds.take i,xP c=true}) (λi=>[(6,.d (.int .i64 (jE (ds.take i.1):Nat))),(43,.d (.int .i64 i.1))]) (λ_=>[]) (λ_=>[]) (λi=>ds.length-i.1) ⟨0,by simp⟩ (by simp[a3I]) ?_;rintro⟨i,hi,ht⟩;by_cases aF:i<ds.length
  .have hw:=bA (show i<9223372036854775807 by omega);by_cases hd:xP ds[i]=true
   .have hv:=a4y _ (ds.take (i+1)) rfl λc hc=>by
     rw[g1l aF]at hc;rcases List.mem_append.1 hc with hc|hc
     .exact ht c hc
     .rw[g1d]at hc;rw[hc];exact hd
    have hp:10 ^ (ds.take (i+1)).length<=10 ^ 13:=Nat.pow_le_pow_right (by omega) (by simp;omega);rw[yW aF]at hv;have hdd:=vO.1 hd;have h48: ¬ds[i].toNat<48:=by omega
    have h57: ¬57<ds[i].toNat:=by omega
    have w1:IntKind.i64.wrap (10*((jE (ds.take i):Nat):Int))=10*((jE (ds.take i):Nat):Int):=wrap64 (by omega);have w2:=d0v hd;have w3:IntKind.i64.wrap (10*((jE (ds.take i):Nat):Int)+((ds[i].toNat-48:Nat):Int))=((jE (ds.take (i+1)):Nat):Int):=by rw[yW aF,wrap64 (by omega)];simp
    simp[aF,h48,h57,w1,w2,w3];exact bC.mk ⟨i+1,aF,λc hc=>by
     rw[g1l aF]at hc;rcases List.mem_append.1 hc with hc|hc
     .exact ht c hc
     .rw[g1d]at hc;rw[hc];exact hd⟩ (by simp[hw]) (by simp;omega)
   .have a3J:(rK s).all xP=false:=by
     cases h:(rK s).all xP
     .rfl
     .rw[qD,g0Z]at h;exact absurd (h _ (List.getElem_mem aF)) hd
    by_cases h48:ds[i].toNat<48
    .simp[aF,h48,a1n a3J]
    .have h57:57<ds[i].toNat:=by rw[vO]at hd;omega
     simp[aF,h48,h57,a1n a3J]
  .have hi':i=ds.length:=by omega
   subst hi';rw[List.take_length]at ht;have dR:(rK s).all xP=true:=by rw[qD,g0Z];exact ht
   have hv:=a4y _ ds rfl ht;have hp:10 ^ ds.length<=10 ^ 13:=Nat.pow_le_pow_right (by omega) hlen;have kF:rV s=chk (sgn (b2l s) (jE (rK s))) true:=by simp[rV,a2H,dR]
   rw[a4z,qD]at kF;simp[sgn]at kF;have w1:IntKind.i64.wrap (-((jE ds:Nat):Int))= -((jE ds:Nat):Int):=wrap64 (by omega);simp[w1];refine aC.mk a3h (a4x _ _) ?_;simp[kF]
 .have a4z:b2l s=false:=by rw[d5z h0];simp[hc]
  have qD:rK s=s:=by unfold rK;rw[a4z];rfl
  simp[h0,hc];by_cases e0:s.length=0
  .first
   |(exfalso;omega;done)
   |(have hf:sI s=false:=by unfold sI;rw[qD];simp[e0]
     have e1:s=[]:=List.length_eq_zero_iff.1 e0;simp[qD,e1,rV,hf])
  have e1:0<s.length:=by omega
  have e2: ¬s=[]:=λe=>e0 (by rw[e];rfl);by_cases hl:13<s.length
  .have hf:sI s=false:=by unfold sI;rw[qD];simp;omega
   simp[qD,e0,e2,hl,rV,hf]
  have hh:=d0w e1;by_cases hd:s[0].toNat=48
  .by_cases h1:1<s.length
   .have hf:sI s=false:=by simp[sI,qD,hh.2 hd,h1]
    simp[e0,e1,e2,hl,hd,h1,rV,hf]
   .have a2H:sI s=true:=by simp[sI,qD,a4z,h1];omega
    simp[e0,e1,e2,hl,hd,h1];have hlen:s.length<=13:=by have:=a2H;simp only[sI,g0W,decide_eq_true_eq,qD]at this;exact this.1.2
    refine SW.eX (ι:={i:Nat//i<=s.length/\∀c∈s.take i,xP c=true}) (λi=>[(6,.d (.int .i64 (jE (s.take i.1):Nat))),(43,.d (.int .i64 i.1))]) (λ_=>[]) (λ_=>[]) (λi=>s.length-i.1) ⟨0,by simp⟩ (by simp[a3I]) ?_;rintro⟨i,hi,ht⟩;by_cases aF:i<s.length
    .have hw:=bA (show i<9223372036854775807 by omega);by_cases hd:xP s[i]=true
     .have hv:=a4y _ (s.take (i+1)) rfl λc hc=>by
       rw[g1l aF]at hc;rcases List.mem_append.1 hc with hc|hc
       .exact ht c hc
       .rw[g1d]at hc;rw[hc];exact hd
      have hp:10 ^ (s.take (i+1)).length<=10 ^ 13:=Nat.pow_le_pow_right (by omega) (by simp;omega);rw[yW aF]at hv;have hdd:=vO.1 hd;have h48: ¬s[i].toNat<48:=by omega
      have h57: ¬57<s[i].toNat:=by omega
      have w1:IntKind.i64.wrap (10*((jE (s.take i):Nat):Int))=10*((jE (s.take i):Nat):Int):=wrap64 (by omega);have w2:=d0v hd;have w3:IntKind.i64.wrap (10*((jE (s.take i):Nat):Int)+((s[i].toNat-48:Nat):Int))=((jE (s.take (i+1)):Nat):Int):=by rw[yW aF,wrap64 (by omega)];simp
      simp[aF,h48,h57,w1,w2,w3];exact bC.mk ⟨i+1,aF,λc hc=>by
       rw[g1l aF]at hc;rcases List.mem_append.1 hc with hc|hc
       .exact ht c hc
       .rw[g1d]at hc;rw[hc];exact hd⟩ (by simp[hw]) (by simp;omega)
     .have a3J:(rK s).all xP=false:=by
       cases h:(rK s).all xP
       .rfl
       .rw[qD,g0Z]at h;exact absurd (h _ (List.getElem_mem aF)) hd
      by_cases h48:s[i].toNat<48
      .simp[aF,h48,a1n a3J]
      .have h57:57<s[i].toNat:=by rw[vO]at hd;omega
       simp[aF,h48,h57,a1n a3J]
    .have hi':i=s.length:=by omega
     subst hi';rw[List.take_length]at ht;have dR:(rK s).all xP=true:=by rw[qD,g0Z];exact ht
     have hv:=a4y _ s rfl ht;have hp:10 ^ s.length<=10 ^ 13:=Nat.pow_le_pow_right (by omega) hlen;have kF:rV s=chk (sgn (b2l s) (jE (rK s))) true:=by simp[rV,a2H,dR]
     rw[a4z,qD]at kF;simp[sgn]at kF;have w1:IntKind.i64.wrap (-((jE s:Nat):Int))= -((jE s:Nat):Int):=wrap64 (by omega);simp[w1];refine aC.mk a3h (a4x _ _) ?_;simp[kF]
  .have hd': ¬s.head? =some 48:=λe=>hd (hh.1 e);have a2H:sI s=true:=by simp[sI,qD,hd'];omega
   simp[e0,e1,e2,hl,hd];have hlen:s.length<=13:=by have:=a2H;simp only[sI,g0W,decide_eq_true_eq,qD]at this;exact this.1.2
   refine SW.eX (ι:={i:Nat//i<=s.length/\∀c∈s.take i,xP c=true}) (λi=>[(6,.d (.int .i64 (jE (s.take i.1):Nat))),(43,.d (.int .i64 i.1))]) (λ_=>[]) (λ_=>[]) (λi=>s.length-i.1) ⟨0,by simp⟩ (by simp[a3I]) ?_;rintro⟨i,hi,ht⟩;by_cases aF:i<s.length
   .have hw:=bA (show i<9223372036854775807 by omega);by_cases hd:xP s[i]=true
    .have hv:=a4y _ (s.take (i+1)) rfl λc hc=>by
      rw[g1l aF]at hc;rcases List.mem_append.1 hc with hc|hc
      .exact ht c hc
      .rw[g1d]at hc;rw[hc];exact hd
     have hp:10 ^ (s.take (i+1)).length<=10 ^ 13:=Nat.pow_le_pow_right (by omega) (by simp;omega);rw[yW aF]at hv;have hdd:=vO.1 hd;have h48: ¬s[i].toNat<48:=by omega
     have h57: ¬57<s[i].toNat:=by omega
     have w1:IntKind.i64.wrap (10*((jE (s.take i):Nat):Int))=10*((jE (s.take i):Nat):Int):=wrap64 (by omega);have w2:=d0v hd;have w3:IntKind.i64.wrap (10*((jE (s.take i):Nat):Int)+((s[i].toNat-48:Nat):Int))=((jE (s.take (i+1)):Nat):Int):=by rw[yW aF,wrap64 (by omega)];simp
     simp[aF,h48,h57,w1,w2,w3];exact bC.mk ⟨i+1,aF,λc hc=>by
      rw[g1l aF]at hc;rcases List.mem_append.1 hc with hc|hc
      .exact ht c hc
      .rw[g1d]at hc;rw[hc];exact hd⟩ (by simp[hw]) (by simp;omega)
    .have a3J:(rK s).all xP=false:=by
      cases h:(rK s).all xP
      .rfl
      .rw[qD,g0Z]at h;exact absurd (h _ (List.getElem_mem aF)) hd
     by_cases h48:s[i].toNat<48
     .simp[aF,h48,a1n a3J]
     .have h57:57<s[i].toNat:=by rw[vO]at hd;omega
      simp[aF,h48,h57,a1n a3J]
   .have hi':i=s.length:=by omega
    subst hi';rw[List.take_length]at ht;have dR:(rK s).all xP=true:=by rw[qD,g0Z];exact ht
    have hv:=a4y _ s rfl ht;have hp:10 ^ s.length<=10 ^ 13:=Nat.pow_le_pow_right (by omega) hlen;have kF:rV s=chk (sgn (b2l s) (jE (rK s))) true:=by simp[rV,a2H,dR]
    rw[a4z,qD]at kF;simp[sgn]at kF;have w1:IntKind.i64.wrap (-((jE s:Nat):Int))= -((jE s:Nat):Int):=wrap64 (by omega);simp[w1];refine aC.mk a3h (a4x _ _) ?_;simp[kF]
end Go.Proofs.YtjpodcmhcenjjaaGreatDoor
end
end
section
section
namespace Go.Proofs.YtjpodcmhcenjjaaGreatDoor
structure Tok where
 kind:Int
 text:List UInt8
 n:Int
 line:Int
 deriving DecidableEq
def smU(b:UInt8):Bool:=decide (97<=b.toNat/\b.toNat<=122)
def caU(b:UInt8):Bool:=decide (65<=b.toNat/\b.toNat<=90)
def dgU(b:UInt8):Bool:=decide (48<=b.toNat/\b.toNat<=57)
def inU(b:UInt8):Bool:=smU b||caU b||dgU b||decide (b.toNat=95)
def cU:List (List UInt8):=[[60,61,62],[45,62],[61,62],[60,61],[62,61],[33,61],[61,61],[38,38],[124,124],[43],[45],[42],[47],[37],[40],[41],[123],[125],[91],[93],[60],[62],[61],[124],[44],[58],[59],[46],[33],[63],[39]]
def tX(s:List UInt8):List UInt8:=(cU.find? λt=>t.isPrefixOf s).getD []
section
variable (num:List UInt8->Int×Bool)
def firstT(s:List UInt8):Int×List UInt8×Int×Bool:=
 match s with
 |[]=>(0,[],0,false)
 |c::r=>
  if smU c then(1,(c::r).takeWhile inU,0,true)
  else if caU c then(2,(c::r).takeWhile inU,0,true)
  else if dgU c then(3,(c::r).takeWhile dgU,(num ((c::r).takeWhile dgU)).1,(num ((c::r).takeWhile dgU)).2)
  else if tX (c::r)=[] then(0,[],0,false)
  else(4,tX (c::r),0,true)
def mH:List UInt8->Nat->Int->Bool->Except Int (List Tok)
 |[],_,ln,_=>.ok [⟨0,[],0,ln⟩]
 |_::r,k+1,ln,cm=>mH r k ln cm
 |c::r,0,ln,cm=>
  if c=10 then mH r 0 (ln+1) false
  else if cm=true\/c=32\/c=9 then mH r 0 ln cm
  else if c=35 then mH r 0 ln true
  else if (firstT num (c::r)).2.2.2 then
   match mH r ((firstT num (c::r)).2.1.length-1) ln false with
   | .ok l=>.ok (⟨(firstT num (c::r)).1,(firstT num (c::r)).2.1,(firstT num (c::r)).2.2.1,ln⟩::l)
   | .error e=>.error e
  else .error ln
variable {num}
theorem e4B{b:UInt8}(h:smU b=true):inU b=true:=by simp[inU,h]
theorem e4C{b:UInt8}(h:caU b=true):inU b=true:=by simp[inU,h]
theorem b8F{p:UInt8->Bool}{rest:List UInt8}(h:∀b,rest.head? =some b->p b=false):∀s:List UInt8,(s++rest).takeWhile p=s.takeWhile p
 |[]=>by
  cases rest with
  |nil=>rfl
  |cons b r=>simp[List.takeWhile,h b rfl]
 |c::s=>by simp only[List.cons_append,List.takeWhile_cons,b8F h s]
theorem find_congr{α:Type}{p q:α->Bool}:∀ {l:List α},(∀x∈l,p x=q x)->l.find? p=l.find? q
 |[],_=>rfl
 |x::l,h=>by simp only[List.find?_cons,h x (.head _),find_congr λy hy=>h y (.tail _ hy)]
theorem d5B{s:List UInt8}(h:tX s≠[]):tX s∈cU/\tX s <+:s:=by
 unfold tX at h|-;cases hf:cU.find? λt=>t.isPrefixOf s with
 |none=>rw[hf]at h;simp at h
 |some t=>exact⟨List.mem_of_find?_eq_some hf,List.isPrefixOf_iff_prefix.1 (by simpa using List.find?_some hf)⟩
theorem d2c:∀t∈cU,tX t=t:=by decide
theorem a3i(p:UInt8->Bool):∀s:List UInt8,s.takeWhile p <+:s:=λs=>List.takeWhile_prefix p
theorem xQ(p:UInt8->Bool):∀s:List UInt8,(s.takeWhile p).takeWhile p=s.takeWhile p
 |[]=>rfl
 |c::s=>by
  rw[List.takeWhile_cons];split
  .rename_i hc;rw[List.takeWhile_cons,if_pos hc,xQ p s]
  .rfl
theorem a1P{p:UInt8->Bool}{c:UInt8}{r:List UInt8}(h:p c=true):(c::r).takeWhile p=c::r.takeWhile p:=by rw[List.takeWhile_cons,if_pos h]
theorem b0E{s:List UInt8}(h:(firstT num s).2.2.2=true):(firstT num s).2.1≠[]/\(firstT num s).2.1 <+:s/\firstT num (firstT num s).2.1=firstT num s:=by
 cases s with
 |nil=>simp[firstT]at h
 |cons c r=>
  by_cases h1:smU c=true
  .have hw:=a1P (r:=r) (e4B h1);have hs:=xQ inU (c::r);have hp:=a3i inU (c::r);simp only[firstT,h1,if_true]at h|-;rw[hw]at hs hp|-;refine⟨by simp,hp,?_⟩;simp only[firstT,h1,if_true,hs]
  .have h1:smU c=false:=by simpa using h1
   by_cases h2:caU c=true
   .have hw:=a1P (r:=r) (e4C h2);have hs:=xQ inU (c::r);have hp:=a3i inU (c::r);simp only[firstT,h1,h2,if_true,Bool.false_eq_true,if_false]at h|-;rw[hw]at hs hp|-;refine⟨by simp,hp,?_⟩;simp only[firstT,h1,h2,if_true,Bool.false_eq_true,if_false,hs]
   .have h2:caU c=false:=by simpa using h2
    by_cases h3:dgU c=true
    .have hw:=a1P (r:=r) h3;have hs:=xQ dgU (c::r);have hp:=a3i dgU (c::r);simp only[firstT,h1,h2,h3,if_true,Bool.false_eq_true,if_false]at h|-;rw[hw]at hs hp|-;refine⟨by simp,hp,?_⟩;simp only[firstT,h1,h2,h3,if_true,Bool.false_eq_true,if_false,hs]
    .have h3:dgU c=false:=by simpa using h3
     by_cases h4:tX (c::r)=[]
     .simp[firstT,h1,h2,h3,h4]at h
     .obtain⟨hm,hp⟩:=d5B h4;have e4D:=d2c _ hm;simp only[firstT,h1,h2,h3,h4,Bool.false_eq_true,if_false]at h|-;refine⟨h4,hp,?_⟩;obtain⟨t,ht⟩:∃t,tX (c::r)=t:=⟨_,rfl⟩;rw[ht]at h4 hp e4D|-;cases t with
      |nil=>exact absurd rfl h4
      |cons d t'=>
       have hd:d=c:=by obtain⟨u,hu⟩:=hp;simp only[List.cons_append,List.cons.injEq]at hu;exact hu.1
       subst hd;simp only[firstT,h1,h2,h3,Bool.false_eq_true,if_false,e4D];simp
theorem c0a:∀(s:List UInt8) (k:Nat) (ln:Int) (cm:Bool),k<=s.length->mH num s k ln cm=mH num (s.drop k) 0 ln cm
 |[],k,ln,cm,h=>by
  have:k=0:=by simpa using h
  subst this
  rfl
 |c::r,0,ln,cm,_=>by rfl
 |c::r,k+1,ln,cm,h=>by
  rw[List.drop_succ_cons];simp only[List.length_cons]at h;rw[<-c0a r k ln cm (by omega)]
  rfl
end
end Go.Proofs.YtjpodcmhcenjjaaGreatDoor
end
section
namespace Go.Proofs.YtjpodcmhcenjjaaGreatDoor
section
variable {num:List UInt8->Int×Bool}
theorem b5S{c:UInt8}{r:List UInt8}(ln:Int)(h1:c≠10)(h2:c≠32)(h3:c≠9)(h4:c≠35):mH num (c::r) 0 ln false=if (firstT num (c::r)).2.2.2 then
   (match mH num ((c::r).drop (firstT num (c::r)).2.1.length) 0 ln false with
   | .ok l=>.ok (⟨(firstT num (c::r)).1,(firstT num (c::r)).2.1,(firstT num (c::r)).2.2.1,ln⟩::l)
   | .error e=>.error e)
  else .error ln:=by
 conv=>lhs;rw[mH]
 rw[if_neg h1,if_neg (by simp[h2,h3]),if_neg h4];split
 .rename_i oI;obtain⟨q1,q2,_⟩:=b0E oI;obtain⟨tx,htx⟩:∃tx,(firstT num (c::r)).2.1=tx:=⟨_,rfl⟩;rw[htx]at q1 q2|-;have hl:0<tx.length:=List.length_pos_iff.2 q1;have hle:=q2.length_le;simp only[List.length_cons]at hle;rw[c0a r (tx.length-1) ln false (by omega)];have:(c::r).drop tx.length=r.drop (tx.length-1):=by
   conv=>lhs;rw[show tx.length=(tx.length-1)+1 by omega]
   rfl
  rw[this]
  try rfl
 .rfl
inductive OkT (num:List UInt8->Int×Bool):List Tok->Int->Prop
 |fin (ln l:Int):ln<=l->OkT num [⟨0,[],0,l⟩] ln
 |cons (t:Tok) (r:List Tok) (ln:Int):ln<=t.line->firstT num t.text=(t.kind,t.text,t.n,true)->OkT num r t.line->OkT num (t::r) ln
theorem OkT.mono{l:List Tok}{ln ln':Int}(h:OkT num l ln)(hl:ln'<=ln):OkT num l ln':=by
 cases h with
 |fin _ l hle=>exact .fin _ _ (by omega)
 |cons t r _ h1 h2 h3=>exact .cons t r _ (by omega) h2 h3
theorem a0V:∀(s:List UInt8) (k:Nat) (ln:Int) (cm:Bool) (l:List Tok),mH num s k ln cm=.ok l->OkT num l ln
 |[],k,ln,cm,l,h=>by simp only[mH,Except.ok.injEq]at h;subst h;exact .fin _ _ (Int.le_refl _)
 |c::r,k+1,ln,cm,l,h=>by rw[mH]at h;exact a0V r k ln cm l h
 |c::r,0,ln,cm,l,h=>by
  rw[mH]at h;split at h
  .exact(a0V r 0 _ _ l h).mono (by omega)
  .split at h
   .exact a0V r 0 _ _ l h
   .split at h
    .exact a0V r 0 _ _ l h
    .split at h
     .rename_i oI;split at h
      .rename_i l' hl;simp only[Except.ok.injEq]at h;subst h;obtain⟨q1,q2,q3⟩:=b0E oI;refine .cons _ _ _ (Int.le_refl _) ?_ (a0V r _ _ _ l' hl);simp only;rw[q3, <- oI]
      .cases h
     .cases h
end
end Go.Proofs.YtjpodcmhcenjjaaGreatDoor
end
section
namespace Go.Proofs.YtjpodcmhcenjjaaGreatDoor
open Go
theorem c1Q{s:List UInt8}{i:Nat}(h:i<s.length):((⟨s.toArray⟩:ByteArray).get! i)=s[i]:=by
 show(s.toArray)[i]! =s[i]
 simp[h]
theorem e1E(s:List UInt8):(⟨s.toArray⟩:ByteArray).size=s.length:=by
 show s.toArray.size=s.length
 simp
theorem d5C{s:List UInt8}{i:Nat}(h:i<s.length)(hb:s[i].toNat<128):Utf8.decode ⟨s.toArray⟩ i=(s[i].toNat,1):=by rw[Lib.decode_at,c1Q h];unfold Lib.decodeN;rw[if_pos hb]
theorem d5D{s:List UInt8}{i:Nat}(h:i<s.length)(hb:128<=s[i].toNat):128<=(Utf8.decode ⟨s.toArray⟩ i).1/\1<=(Utf8.decode ⟨s.toArray⟩ i).2/\i+(Utf8.decode ⟨s.toArray⟩ i).2<=s.length/\
  ∀j,i<=j->j<i+(Utf8.decode ⟨s.toArray⟩ i).2->∃h:j<s.length,128<=s[j].toNat:=by
 rw[Lib.decode_at,c1Q h,e1E];have at1:∀k,i+k<s.length->((⟨s.toArray⟩:ByteArray).get! (i+k))=s[i+k]! :=λk hk=>by rw[c1Q hk];simp[hk]
 have two:∀(j:Nat) (hj:j<s.length),s[j].toNat/64=2->128<=s[j].toNat:=λj hj h=>by omega
 have key:∀k,i+k<s.length->((⟨s.toArray⟩:ByteArray).get! (i+k)).toNat/64=2->∃h:i+k<s.length,128<=s[i+k].toNat:=λk hk h=>by rw[c1Q hk]at h;exact⟨hk,two _ hk h⟩
 rcases Lib.decodeN_shape (s.length-i) s[i].toNat ((⟨s.toArray⟩:ByteArray).get! (i+1)).toNat ((⟨s.toArray⟩:ByteArray).get! (i+2)).toNat ((⟨s.toArray⟩:ByteArray).get! (i+3)).toNat with h1|h1|h1|h1|h1
 .omega
 .obtain⟨a,b,c,d,e⟩:=h1;rw[e];refine⟨by simp only;omega,by simp,by simp only;omega,λj hj tY=>?_⟩;simp only at tY;rcases(show j=i\/j=i+1 by omega)with rfl|rfl
  .exact⟨h,hb⟩
  .exact key 1 (by omega) c
 .obtain⟨a,b,c,d,f,g,e⟩:=h1;rw[e];refine⟨by simp only;omega,by simp,by simp only;omega,λj hj tY=>?_⟩;simp only at tY;rcases(show j=i\/j=i+1\/j=i+2 by omega)with rfl|rfl|rfl
  .exact⟨h,hb⟩
  .exact key 1 (by omega) c
  .exact key 2 (by omega) d
 .obtain⟨a,b,c,d,f,g,k,e⟩:=h1;rw[e];refine⟨by simp only;omega,by simp,by simp only;omega,λj hj tY=>?_⟩;simp only at tY;rcases(show j=i\/j=i+1\/j=i+2\/j=i+3 by omega)with rfl|rfl|rfl|rfl
  .exact⟨h,hb⟩
  .exact key 1 (by omega) c
  .exact key 2 (by omega) d
  .exact key 3 (by omega) f
 .rw[h1];refine⟨by simp,by simp,by simp only;omega,λj hj tY=>?_⟩;simp only at tY;rcases(show j=i by omega)with rfl;exact⟨h,hb⟩
end Go.Proofs.YtjpodcmhcenjjaaGreatDoor
end
end
section
namespace Go.VM
open Go Go.RowKit Go.ChangeShapes Go.WideShapes Go.Proofs.YtjpodcmhcenjjaaGreatDoor
mutual
def szD:D->Nat
 | .str s=>s.length+1
 | .sl es=>c1R es+1
 | .agg ds=>szL ds
 | .int _ _=>1
 | .bool _=>1
 | .aD=>1
def szL:List D->Nat
 |[]=>0
 |d::r=>szD d+szL r
def c1R:List (List D)->Nat
 |[]=>0
 |l::r=>szL l+c1R r
end
theorem b5T:∀a b:List D,szL (a++b)=szL a+szL b
 |[],b=>by simp[szL]
 |d::a,b=>by have:=b5T a b;simp only[List.cons_append,szL,this];omega
mutual
theorem c1S {H:Type}:∀d:DataW H,szL (flat d)<=Rows.uptoBulk d
 | .lit (.int k n)=>by simp[flat,szL,szD,Rows.uptoBulk]
 | .lit (.bool b)=>by simp[flat,szL,szD,Rows.uptoBulk]
 | .lit (.string s)=>by simp[flat,szL,szD,Rows.uptoBulk]
 | .nil=>by simp[flat,szL,szD,c1R,Rows.uptoBulk]
 | .slice es sp=>by have:=c0b es;simp only[flat,szL,szD,Rows.uptoBulk];omega
 | .agg ps=>by have:=c5h ps;simp only[flat,Rows.uptoBulk];omega
 | .lit (.float .f32 _)=>by simp[flat,szL]
 | .lit (.float .f64 _)=>by simp[flat,szL]
 | .lit .nil=>by simp[flat,szL]
 | .ptr d=>by simp[flat,szL]
 | .iface _ d=>by simp[flat,szL]
 | .map es=>by simp[flat,szL]
 | .held _=>by simp[flat,szL]
theorem c0b {H:Type}:∀l:List (DataW H),c1R (a0j l)<=Rows.uptoBulkAll l
 |[]=>by simp[a0j,c1R]
 |d::r=>by have h1:=c1S d;have h2:=c0b r;simp only[a0j,c1R,Rows.uptoBulkAll];omega
theorem c5h {H:Type}:∀l:List (DataW H),szL (xN l)<=Rows.uptoBulkAll l
 |[]=>by simp[xN,szL]
 |d::r=>by have h1:=c1S d;have h2:=c5h r;simp only[xN,b5T,Rows.uptoBulkAll];omega
end
section
variable {P:Program} {H:Type} {enc:TypeId×Value->H} {w:World} {sp:Nat->Bool} {held:Bool} {L:List TypeId}
theorem c5i{r:Reach}{b0:Nat}(sE:laidOutB P=true)(hp:a2E P L=true){t:TypeId}{v:Value}{d:DataW H}{ps:List MemPlace}(hT:L.contains t=true)(a2l:Value.okWide P w r b0 t v)(h:DataW.Trod enc P w 0 sp held t v d ps):
  ∃x,a8u P t x/\V (RW w) w v x/\szD x=szL (flat d):=by
 obtain⟨n,hn⟩:=h;obtain⟨h1,h2,h3⟩:=b2j sE hp n t _ _ hT hn;have pZ:=g0Z.1 hp t (by simpa using hT);simp only[g0W,decide_eq_true_eq]at pZ;obtain⟨_,pZ⟩:=pZ;cases hu:P.underlying t with
 |none=>rw[hu]at pZ;cases pZ
 |some u=>
  cases ha:pV u with
  |true=>
   have hv:∃cs:Array Value,v=.agg cs:=by
    unfold Value.okWide at a2l;rw[hu]at a2l;cases u<;>simp only[pV]at ha<;>(try cases ha)
    .obtain⟨cs,hv,_⟩:=a2l;exact⟨cs,hv⟩
    .obtain⟨cs,hv,_⟩:=a2l;exact⟨cs,hv⟩
   obtain⟨cs,rfl⟩:=hv;refine⟨.agg (flat d),by simp only[a8u,hu,ha,if_true];exact⟨_,rfl,h2⟩,.agg _ _ (by simpa[Value.cells]using h1.symm) (λi x hx=>(h3 i x hx).1) (λi x hx=>?_),by simp[szD]⟩;have:=(h3 i x hx).2;simpa[Value.cells,List.getD,g0Y]using this
  |false=>
   have hc:v.cells=#[v]:=by refine b5M hu ha ?_ a2l;rw[hu]at pZ|-;cases u<;>simp only[pV]at ha<;>(try cases ha)<;>first|rfl|(simp at pZ)
   rw[hc]at h1 h3;simp at h1;obtain⟨x,hx⟩:∃x,flat d=[x]:=List.length_eq_one_iff.1 h1;simp only[hx]at h2 h3;refine⟨x,by simp only[a8u,hu,ha];exact h2,by simpa using (h3 0 x rfl).2,by simp[hx,szL]⟩
theorem b3s{r:Reach}{b0:Nat}(sE:laidOutB P=true)(hp:a2E P L=true):∀ {ts:List TypeId} {vs:List Value} {ds:List (DataW H)} {ps:List MemPlace},(∀t∈ts,L.contains t=true)->(∀(j:Nat) t v,ts[j]? =some t->vs[j]? =some v->Value.okWide P w r b0 t v)->
  DataW.TrodAll enc P w 0 sp held ts vs ds ps->∃xs,b0B P ts xs/\vs.length=xs.length/\(∀(i:Nat) (d:D),xs[i]? =some d->V (RW w) w (vs.getD i undef) d)/\szL xs<=Rows.uptoBulkAll ds
 |[],_,_,_,_,_,h=>by obtain⟨rfl,rfl,rfl⟩:=trodAll_nil h;exact⟨[],trivial,rfl,by simp,by simp[szL]⟩
 |t::ts,_,_,_,hT,hv,h=>by
  obtain⟨v,vs1,d,ds1,a,b,rfl,rfl,rfl,h1,h2⟩:=trodAll_cons h;obtain⟨x,q1,q2,q7⟩:=c5i sE hp (hT t (.head _)) (hv 0 t v rfl rfl) h1;obtain⟨xs,q3,q4,q5,q6⟩:=b3s sE hp (λt ht=>hT t (.tail _ ht)) (λj t v a b=>hv (j+1) t v a b) h2;refine⟨x::xs,⟨q1,q3⟩,by simp[q4],λi d hi=>?_,by have:=c1S d;simp only[szL,Rows.uptoBulkAll];omega⟩
  cases i with
  |zero=>simp at hi;subst hi;simpa using q2
  |succ i=>simp at hi;simpa using q5 i d hi
theorem b5U{G:GT}{f:FuncId}{fn:Func}{s:ChangeSpec}{apart fresh handsOn again:Bool}{tb:TypeId}{r:Reach}{b0:Nat}(sE:laidOutB P=true)(hmr:mapsRowed P=true)(hsf:((List.range P.types.size).all λt=>match P.underlying t with|some (.slice e)=>decide (0<P.cellsOf e)|_=>true)=true)(hp:a2E P L=true){ts:List TypeId}(hts:fn.params.toList=ts)(hT:(ts.all λt=>L.contains t)=true)(c4W:s.vars=[])(kF:fn.resultTypes=#[tb])(htb:P.underlying tb=some .bool)(hs:∀ds:List (DataW H),ds.length=ts.length->s.fn H ds={results:=[.lit (.bool true)],args:=ds})(rI:∀xs,b0B P ts xs->szL xs<=1048576->CS P G f xs (.d (.bool true)) none){W:World}{args:Array Value}{ds gs:List (DataW H)}{before:List MemPlace}(a2l:∀(j:Nat) t v,fn.params[j]? =some t->args[j]? =some v->Value.okWide P W r b0 t v)(hW:DataW.Whole enc P fn.params.toList s.vars apart W args.toList ds gs before)(hG:a8d G (a0u W.heap.size) (RW W) W)(hk:Rows.uptoSmall H (ds++gs)=true):
  Calls P f args W λe W'=>∃v,e=.returned v/\s.post enc P fn apart fresh handsOn again W args v W':=by
 have hW':=hW;obtain⟨p,q,hA,hV,rfl,hfz,hnd⟩:=hW;rw[c4W]at hV;obtain⟨rfl,rfl⟩:=trodVars_none hV;rw[hts]at hA;have hTm:∀t∈ts,L.contains t=true:=g0Z.1 hT;obtain⟨xs,q1,q2,q3,q6⟩:=b3s sE hp hTm (λj t v a b=>a2l j t v (by rw[<-Array.getElem?_toList,hts];exact a) (by rw[<-Array.getElem?_toList];exact b)) hA;have jZ:szL xs<=1048576:=by have h1:Rows.uptoBulkAll (ds++[])<=1048576:=of_decide_eq_true hk;rw[List.append_nil]at h1;omega
 refine(rI xs q1 jZ W (RW W) args hG (λ_ _ h=>h) (by simpa using q2) (λi d hi=>by simpa[List.getD,g0Y]using q3 i d hi)).mono λe W' ⟨v,R',he,htv,mU,_,_⟩=>?_;have hv:v=.bool true:=by
  have:=htv (λ_=>0);cases this with
  |d _ _ h=>cases h;rfl
 subst he hv;have hlen:=b3j hA;have aF:∀x∈p++[],x.block<W.heap.size:=hW'.lt;refine⟨_,rfl,d2b hW' mU.below.below (λ_ _ _=>?_) (λsp' hsp=>?_) (λ_ _=>?_) ?_⟩
 .rw[List.append_nil,hs ds hlen,kF];exact trodAll_cons_mk (shut_bool htb _) trodAll_mk0
 .rw[List.append_nil,List.append_nil,hs ds hlen,hts];have h1:=a8v (w':=W') hA λx hx=>mU.below.below.same (aF x (by simpa using hx));refine h1.respare (kids_rows sE hmr) (λt e ht hu=>slices_full_of P hsf t e ht hu) (λt ht=>?_) (λx hx=>hsp x (by simpa using hx));have pZ:=g0Z.1 hp t (by simpa using hTm t ht);simp only[g0W,decide_eq_true_eq]at pZ;exact pZ.1
 .rw[List.append_nil,hs ds hlen,c4W]
  rfl
 .exact ok_one kF rfl (okWide_bool_mk htb _)
end
end Go.VM
end
section
section
namespace Go.Proofs.YtjpodcmhcenjjaaGreatDoor
open Go Go.VM
abbrev Nm:=List UInt8
theorem d5E:strs []=[]:=rfl
attribute [simp] d5E
structure Pr where
 op:Int
 name:Nm
 n:Int
 kids:List Pr
structure Ty where
 op:Int
 name:Nm
 args:List Ty
 names:List Nm
 pred:Pr
 b0F:List Pr
theorem Pr.ind{M:Pr->Prop}(h:∀p:Pr,(∀k∈p.kids,M k)->M p):∀p,M p
 |⟨op,nm,n,ks⟩=>h _ λk hk=>Pr.ind h k
theorem Ty.ind{M:Ty->Prop}(h:∀t:Ty,(∀k∈t.args,M k)->M t):∀t,M t
 |⟨op,nm,l,ns,p,ps⟩=>h _ λk hk=>Ty.ind h k
def rW:Pr->List D
 |⟨op,nm,n,ks⟩=>[.int .i64 op,.str nm,.int .i64 n,.sl (ks.map rW)]
abbrev prD(p:Pr):List D:=[.int .i64 p.op,.str p.name,.int .i64 p.n,.sl (p.kids.map rW)]
theorem dE(p:Pr):rW p=[.int .i64 p.op,.str p.name,.int .i64 p.n,.sl (p.kids.map rW)]:=by cases p;rw[rW]
def tyC:Ty->List D
 |⟨op,nm,l,ns,p,ps⟩=>[.int .i64 op,.str nm,.sl (l.map tyC),.sl (strs ns),.int .i64 p.op,.str p.name,.int .i64 p.n,.sl (p.kids.map rW),.sl (ps.map rW)]
abbrev tyD(t:Ty):List D:=[.int .i64 t.op,.str t.name,.sl (t.args.map tyC),.sl (strs t.names),.int .i64 t.pred.op,.str t.pred.name,.int .i64 t.pred.n,.sl (t.pred.kids.map rW),.sl (t.b0F.map rW)]
theorem bV(t:Ty):tyC t=[.int .i64 t.op,.str t.name,.sl (t.args.map tyC),.sl (strs t.names),.int .i64 t.pred.op,.str t.pred.name,.int .i64 t.pred.n,.sl (t.pred.kids.map rW),.sl (t.b0F.map rW)]:=by cases t;rw[tyC]
attribute [simp] dE bV
theorem xR{l:List Pr}{i:Nat}(h:i<l.length):(l.map rW)[i]? =some (prD l[i]):=by simp[h,dE]
theorem e1F{l:List Ty}{i:Nat}(h:i<l.length):(l.map tyC)[i]? =some (tyD l[i]):=by simp[h,bV]
end Go.Proofs.YtjpodcmhcenjjaaGreatDoor
end
section
namespace Go.Proofs.YtjpodcmhcenjjaaGreatDoor
open Go Go.VM
variable {G:GT}
mutual
def bM:Pr->Nat
 |⟨_,_,_,l⟩=>1+dM l
def dM:List Pr->Nat
 |[]=>0
 |t::r=>bM t+dM r
end
mutual
theorem e1G:∀p:Pr,bM p<=szL (rW p)
 |⟨op,nm,n,l⟩=>by have:=c5j l;rw[dE];simp only[bM,szL,szD];omega
theorem c5j:∀l:List Pr,dM l<=c1R (l.map rW)
 |[]=>by simp[dM,c1R]
 |t::r=>by have h1:=e1G t;have h2:=c5j r;simp only[dM,List.map_cons,c1R];omega
end
theorem b2m:∀a b:List Pr,dM (a++b)=dM a+dM b
 |[],b=>by simp[dM]
 |t::a,b=>by simp only[List.cons_append,dM,b2m a b];omega
theorem pT(p:Pr):bM p=1+dM p.kids:=by cases p;rfl
theorem rX{l:List Pr}{i:Nat}(h:i<l.length):dM (l.take (i+1))=dM (l.take i)+bM l[i]:=by rw[g1l h,b2m];simp[dM]
theorem kE:∀(l:List Pr) (i:Nat),dM (l.take i)<=dM l
 |[],i=>by simp
 |t::r,0=>by simp[dM]
 |t::r,i+1=>by have:=kE r i;simp only[List.take_succ_cons,dM];omega
theorem c5k(p:Pr):1<=bM p:=by rw[pT];omega
theorem jF:∀l:List Pr,l.length<=dM l
 |[]=>by simp
 |t::r=>by have h1:=c5k t;have h2:=jF r;simp only[dM,List.length_cons];omega
theorem b0G:VM.Enters prog 222:=.mk func222 rfl
theorem c5l(p:Pr):bM p<=900000000->CS prog G 222 [.agg (prD p)] (.d (.int .i64 (bM p))) none:=by
 revert p
 refine Pr.ind λp ih=>?_;obtain⟨op,nm,n,l⟩:=p;intro hN;simp only at ih;have hn:=pT ⟨op,nm,n,l⟩;simp only at hn;have hl:=jF l;refine CS.aX func222 rfl ntmps222 rfl ?_;simp;refine SW.eX (ι:={i:Nat//i<=l.length}) (λi=>[(3,.d (.int .i64 (1+dM (l.take i.1):Nat))),(9,.d (.int .i64 i.1))]) (λ_=>[(1,.cells [.d (.int .i64 op),.d (.str nm),.d (.int .i64 n),.d (.sl (l.map rW))])]) (λ_=>[]) (λi=>l.length-i.1) ⟨0,by simp⟩ (by simp[dM]) ?_;rintro⟨i,hi⟩;by_cases aF:i<l.length
 .have hg:=xR aF;have hw:=bA (show i<9223372036854775807 by omega);have hb2:=rX aF;have hb3:=kE l (i+1);have hw2:IntKind.i64.wrap (((1+dM (l.take i):Nat):Int)+(bM l[i]:Int))=((1+dM (l.take (i+1)):Nat):Int):=by rw[wrap64 (by omega),hb2];omega
  simp[aF,hg];refine aC.mk b0G (ih l[i] (List.getElem_mem aF) (by omega)) ?_;simp;exact bC.mk ⟨i+1,aF⟩ (by simp at hw2;simp[hw,hw2]) (by simp;omega)
 .have:i=l.length:=by omega
  subst this;simp[hn]
end Go.Proofs.YtjpodcmhcenjjaaGreatDoor
end
section
namespace Go.Proofs.YtjpodcmhcenjjaaGreatDoor
open Go Go.VM
variable {G:GT}
theorem cK{P:Program}{q:Bool}{x:Out}{c:Prop}[Decidable c]{dst:Option Tmp}{all:Array Oper}{rest:List Oper}{k:List KI}{Q:Exit->St->Prop}(hc:c)(h:b9R P G q (some x) dst all rest k Q):b9R P G q (if c then some x else none) dst all rest k Q:=by rw[if_pos hc];exact h
theorem d5F{α β:Type}(f:α->β){l:List α}{i:Nat}(h:i<l.length):(l.take (i+1)).map f=(l.take i).map f++[f l[i]]:=by
 rw[g1l h,List.map_append]
 rfl
end Go.Proofs.YtjpodcmhcenjjaaGreatDoor
end
end
