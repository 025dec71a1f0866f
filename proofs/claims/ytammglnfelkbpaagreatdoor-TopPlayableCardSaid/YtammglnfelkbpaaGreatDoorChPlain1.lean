/- Matches by points: what the program and the reference make of one point. -/
import Derived.Test.YtammglnfelkbpaaGreatDoorRgSh
import Derived.Test.YtammglnfelkbpaaGreatDoorAmPlain
namespace Go.Am
theorem xA{α β:Type}{A:Option α}{x:α}(h:A=some x)(f:α->Option β):A.bind f=f x:=by subst h;rfl
def small(n:Nat)(p:aS):Prop:=(0<=p.A/\p.A<=n)/\0<=p.B/\p.B<=n
theorem small.up{n k:Nat}{p:aS}(h:small n p)(hk:n<=k):small k p:=by unfold small at*;omega
def bRd(p:aS)(least:Int):Int:=bif decide (least<=p.A)&&decide (p.B+2<=p.A) then 0 else bif decide (least<=p.B)&&decide (p.A+2<=p.B) then 1 else-1
def cPb(f:dC)(tie:Bool)(to:Int)(p:aS):Int:=bif tie then bRd p to else bif f.NoAd then(bif decide (4<=p.A) then 0 else bif decide (4<=p.B) then 1 else-1) else bRd p 4
def bDe(l:List aS):aS:=l.foldl (λp g=>bif decide (g.B<g.A) then⟨p.A+1,p.B⟩ else⟨p.A,p.B+1⟩) ⟨0,0⟩
def bGa(f:dC)(won:aS):Int×Int:=bif decide (won.A=f.Sets-1)&&decide (won.B=f.Sets-1) then(f.LastTie,f.LastTo) else(f.Tie,f.To)
def cMb(f:dC)(won g:aS):Bool:=decide (g.A=(bGa f won).1)&&decide (g.B=(bGa f won).1)
def okF(f:dC):Prop:=(1<=f.Sets/\f.Sets<=3)/\1<=f.Games/\f.Games<=8
end Go.Am
