/- Matches by points: all points, both ways. -/
import Derived.Test.YtammglnfelkbpaaGreatDoorChPlain2
namespace Go.Am
theorem cFp(f:dC):∃c,vB f=some c/\wE f=some c/\(c=0->okF f):=by
 have w1:∀n a b,gY n a b=some (decide (a<=n)&&decide (n<=b)):=λn a b=>by unfold gY;rw[dA];rfl
 have w2:∀n a b,nA n a b=some (decide (a<=n)&&decide (n<=b)):=λn a b=>by unfold nA;rw[dA];rfl
 have t1:∀n,∃b,qZ f n=some b/\vY n f=some b:=λn=>by
  unfold qZ vY;simp only[jG,c6];exact⟨_,rfl,rfl⟩
 obtain⟨x1,y1,z1⟩:=t1 f.Tie;obtain⟨x2,y2,z2⟩:=t1 f.LastTie;unfold vB wE;simp only[w1,w2,y1,y2,z1,z2,c6,jG,dA];have hS:(decide (1<=f.Sets)&&decide (f.Sets<=3))=true->1<=f.Sets/\f.Sets<=3:=λh=>by simpa using h
 have hG:(decide (1<=f.Games)&&decide (f.Games<=8))=true->1<=f.Games/\f.Games<=8:=λh=>by simpa using h
 revert hS hG
 generalize(decide (1<=f.Sets)&&decide (f.Sets<=3))=a1
 generalize(decide (1<=f.Games)&&decide (f.Games<=8))=a2
 generalize(decide (1<=f.To)&&decide (f.To<=15))=a3
 generalize(decide (1<=f.LastTo)&&decide (f.LastTo<=15))=a4
 generalize(decide (0<=f.First)&&decide (f.First<=20))=a5
 generalize(decide (0<=f.Then)&&decide (f.Then<=20))=a6
 intro hS hG;cases a1<;>cases a2<;>cases x1<;>cases x2<;>cases a3<;>cases a4<;>cases a5<;>cases a6<;>first|exact⟨0,rfl,rfl,λ_=>⟨hS rfl,hG rfl⟩⟩|exact⟨10,rfl,rfl,λh=>absurd h (by decide)⟩
end Go.Am
