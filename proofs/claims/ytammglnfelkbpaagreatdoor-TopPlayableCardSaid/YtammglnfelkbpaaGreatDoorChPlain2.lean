/- Matches by points: one point, both ways; then all of them. -/
import Derived.Test.YtammglnfelkbpaaGreatDoorChPlain1
namespace Go.Am
structure BI(f:dC)(i:Nat)(b:eL):Prop where
 sets:b.Sets.length<=i
 games:small i b.Games
 points:small i b.Points
 bRd:bRd b.Games f.Games= -1
 op:cPb f (cMb f (bDe b.Sets) b.Games) (bGa f (bDe b.Sets)).2 b.Points= -1
 wa:(bDe b.Sets).A<f.Sets
 wb:(bDe b.Sets).B<f.Sets
section
variable{f:dC}(hf:okF f){i:Nat}{b:eL}(h:BI f i b)(hi:i<=10000){tb:Bool}(htb:tb=cMb f (bDe b.Sets) b.Games){to:Int}(hto:to=(bGa f (bDe b.Sets)).2)(s:Int)
include h htb hto
end
end Go.Am
