/- Matches by points: all points, both ways. -/
import Derived.Test.YtdebnakalmnnpaaGreatDoorChPlain2
namespace Go.Am
theorem bLj(f:bU)(b:cX)(tb:Bool)(to s:Int):(aDf f b tb to s).2= -1\/(aDf f b tb to s).2=0\/(aDf f b tb to s).2=1:=by
 unfold aDf;have h:=aPq f tb to (bV b.Points s);cases decide (qO f tb to (bV b.Points s)<0)
 ·cases zV f tb (bV b.Games (qO f tb to (bV b.Points s)))
  ·exact .inl rfl
  ·cases vL f (fL (b.Sets++[bV b.Games (qO f tb to (bV b.Points s))]))
   ·exact .inl rfl
   ·simp only[cond_false,cond_true];omega
 ·exact .inl rfl
def bIu(ps:List Int)(k:Nat)(i:Int)(m:aN):Option ((Option aN)×Int):=
 qN ps (ps.length:Int) k i m.Score.Board.Sets m.ties m.games m.rules m.Score.Board.Games m.Score.Board.Points m.Score.Server m.Score.Ends m.Score.Balls m.Score.Winner m.first m.won
theorem bMd(f:bU):∃c,rM f=some c/\tZ f=some c/\(c=0->okF f):=by
 have w1:∀n a b,fS n a b=some (decide (a<=n)&&decide (n<=b)):=λn a b=>by unfold fS;rw[cB];rfl
 have w2:∀n a b,lI n a b=some (decide (a<=n)&&decide (n<=b)):=λn a b=>by unfold lI;rw[cB];rfl
 have t1:∀n,∃b,oR f n=some b/\sV n f=some b:=λn=>by
  unfold oR sV;simp only[jO,Option.bind_some];exact⟨_,rfl,rfl⟩
 obtain⟨x1,y1,z1⟩:=t1 f.Tie;obtain⟨x2,y2,z2⟩:=t1 f.LastTie;unfold rM tZ;simp only[w1,w2,y1,y2,z1,z2,Option.bind_some,jO,cB];have hS:(decide (1<=f.Sets)&&decide (f.Sets<=3))=true->1<=f.Sets/\f.Sets<=3:=λh=>by simpa using h
 have hG:(decide (1<=f.Games)&&decide (f.Games<=8))=true->1<=f.Games/\f.Games<=8:=λh=>by simpa using h
 revert hS hG
 generalize(decide (1<=f.Sets)&&decide (f.Sets<=3))=a1
 generalize(decide (1<=f.Games)&&decide (f.Games<=8))=a2
 generalize(decide (1<=f.To)&&decide (f.To<=15))=a3
 generalize(decide (1<=f.LastTo)&&decide (f.LastTo<=15))=a4
 generalize(decide (0<=f.First)&&decide (f.First<=20))=a5
 generalize(decide (0<=f.Then)&&decide (f.Then<=20))=a6
 intro hS hG;cases a1<;>cases a2<;>cases x1<;>cases x2<;>cases a3<;>cases a4<;>cases a5<;>cases a6<;>first|exact⟨0,rfl,rfl,λ_=>⟨hS rfl,hG rfl⟩⟩|exact⟨10,rfl,rfl,λh=>absurd h (by decide)⟩
end Go.Am
