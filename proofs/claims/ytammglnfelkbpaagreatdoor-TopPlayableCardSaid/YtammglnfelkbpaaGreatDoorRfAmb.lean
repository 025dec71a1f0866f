/- What the package variables of this program hold. -/
import Derived.Test.YtammglnfelkbpaaGreatDoorAmByt
import Derived.Test.YtammglnfelkbpaaGreatDoorChecked
import Derived.KernelRfl
namespace Go.Am
open Go.Proofs
theorem cFh(w:World)(X:Nat->Nat->Prop)(h:Amb w X):Lib.TabIs Tryz.prog w "internal/strconv.uint64pow10" .u64 Lib.pow10Tab:=by
 obtain⟨e,f,h1,_⟩:=h.1 (3,_) (l7.2 rfl);unfold Lib.TabIs World.var?;rw[show Tryz.prog.globalNamed "internal/strconv.uint64pow10" =some 3 from by kernel_rfl];simp only[c6,h1]
 rfl
theorem cFg(w:World)(X:Nat->Nat->Prop)(h:Amb w X):∃m:Int,w.cell? ⟨0,0,none⟩=some (.int .i64 m):=by
 obtain⟨m,e,f,h1,_⟩:=h.2 0 (l7.2 rfl);exact⟨m,by simp[World.cell?,h1]⟩
end Go.Am
