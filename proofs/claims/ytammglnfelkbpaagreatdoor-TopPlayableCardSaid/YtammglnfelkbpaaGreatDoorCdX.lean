/- Cards: nodes, one more point, what holds. -/
import Derived.Test.YtammglnfelkbpaaGreatDoorXSim
import Derived.Test.YtammglnfelkbpaaGreatDoorAmNs
namespace Go.Am
open Go.Proofs
set_option maxRecDepth 100000
set_option maxHeartbeats 40000000
attribute [local instance] aCj
structure bA where
 ga:Int
 gb:Int
 pa:Int
 pb:Int
 deriving DecidableEq,Inhabited
def pR(s:bA):List D:=[.lit (.int .i64 0),.lit (.int .i64 0),.lit (.int .i64 0),.lit (.int .i64 0),.lit (.int .i64 0),.lit (.int .i64 0),.lit (.int .i64 0),.lit (.int .i64 0),.lit (.int .i64 0),.lit (.int .i64 0),.lit (.int .i64 0),.lit (.int .i64 0),.lit (.int .i64 s.ga),.lit (.int .i64 s.gb),.lit (.int .i64 s.pa),.lit (.int .i64 s.pb)]
def iW(s:bA)(v:Value)(i lo hi:Int):List D:=[.lit (.int .i64 0),.lit (.int .i64 0),.lit (.int .i64 0),.lit (.int .i64 0),.lit (.int .i64 0),.lit (.int .i64 0),.lit (.int .i64 0),.lit (.int .i64 0),.lit (.int .i64 0),.lit (.int .i64 0),.lit (.int .i64 0),.lit (.int .i64 0),.lit (.int .i64 s.ga),.lit (.int .i64 s.gb),.lit (.int .i64 s.pa),.lit (.int .i64 s.pb),.lit v,.lit (.int .i64 i),.lit (.int .i64 lo),.lit (.int .i64 hi)]
def rdC(l:List dL):List D:=[.lit (.int .i64 2),.lit (.int .i64 2),.lit (.bool false),.lit (.int .i64 2),.lit (.int .i64 3),.lit (.int .i64 0),.lit (.int .i64 4),.lit (.int .i64 2),.lit (.int .i64 2),.lit (.bool false),.lit (.int .i64 0),.sl 4 (l.map lQ)]
def gU(s:bA)(side:Int):Option bA:=
 (aRf ⟨s.pa,s.pb⟩ side).bind λp=>
 bif decide ((⟨s.ga,s.gb⟩:aS)=⟨2,2⟩) then none else
 (aNr p side 4 2).bind λb=>
 bif b then(aRf ⟨s.ga,s.gb⟩ side).bind λg=>(bif decide ((⟨s.ga,s.gb⟩:aS)=⟨2,2⟩) then some true else(aNr g side 2 2).bind λc=>some c).bind λc=>bif c then none else some ⟨g.A,g.B,0,0⟩
 else some ⟨s.ga,s.gb,p.A,p.B⟩
theorem bQc(s:bA):Fn Tryz.prog 204 [.agg (pR s)] (.agg (cN ⟨0,0⟩)):=by
 refine fnx xT {} [.cell 2 119] Tryz.func204 Tryz.results204 Tryz.ntmps204 ?_;refine cOw (q:=2) 2 Tryz.underlying244 (λw=>Tryz.sizeOf119 w) (by decide) ?_;refine⟨⟨0,rfl,?_⟩⟩;refine xlp [2,8,9,10] [2] (λ(_:Unit)=>([],[])) (λk _=>match k with|0=>none|_+1=>some ()) () (k0:=1) rfl (lev []) ?_;intro k _ _;refine ob2 ?_ ?_
 · intro h;cases h
 intro _;exact⟨rfl,rfl,rfl⟩
theorem bOz:mP Tryz.prog 248 (.agg #[.int .i64 0,.int .i64 0,.int .i64 0,.int .i64 0,.int .i64 0,.int .i64 0,.int .i64 0,.int .i64 0,.int .i64 0,.int .i64 0,.int .i64 0,.int .i64 0,.int .i64 0,.int .i64 0,.int .i64 0,.int .i64 0,.pointer none,.int .i64 0,.int .i64 0,.int .i64 0]) [(0,16),(16,1),(17,1),(18,2)]:=⟨Tryz.zeroValue248,_,Tryz.runUnderlying248,λw=>by simp[Tryz.sizeOf246,Tryz.sizeOf243,Tryz.sizeOf3,Tryz.sizeOf81]⟩
theorem bLp(s:bA)(side:Int)(v:Value)(i lo hi:Int)(l:List dL)(b o:Nat){r:bA}(h:gU s side=some r):aX Tryz.prog 203 [.agg (rdC l),.bp b o 0,.d (.lit (.int .i64 side))] [.box b o (iW s v i lo hi)]
    (λr' o'=>∃b' q,r'=.bp b' q 0/\o'=[.box b o (iW s v i lo hi),.box b' q (iW r (.pointer (some ⟨b,o,none⟩)) side (w64 (lo+1)) (w64 (hi+1)))]):=by
 unfold gU at h;refine fng xT {} true [(b,o,undef)] [.agg (rdC l),.bp 100000 0 0,.d (.lit (.int .i64 side))] [(100000,.box (iW s v i lo hi))] [.tmp 6] Tryz.func203 Tryz.results203 Tryz.ntmps203 ?_;refine cl (sh:=some ()) (g:=λ_=>some ()) (enc:=λ_=>.agg (cN ⟨0,0⟩)) Tryz.call204 (λ_ _=>bQc s) rfl λ_ _=>?_;refine bRk ?_;refine ob2 ?_ ?_
 · intro h;cases h
 intro _;refine⟨by kernel_rfl,?_⟩;refine⟨by kernel_rfl,?_⟩;refine jg (X:=some false) (g:=λb=>some b) (r:=false) rfl (λx hx=>?_) λb3 h3=>?_
 · cases hx
   refine ob2 ?_ ?_
   · intro _;exact jt rfl
   · intro _;exact jt rfl
 cases h3;refine ob2 ?_ ?_
 · intro h;cases h
 intro _;refine bCp (a:=(⟨s.ga,s.gb⟩:aS)) (b:=(⟨2,2⟩:aS)) Tryz.eqGuardType119 aId ?_;refine cl Tryz.call238 KC.h h λr1 h=>?_;refine br h (λh=>by cases h) λh=>?_;refine ob2 ?_ ?_
 · intro h;cases h
 intro _;refine cl Tryz.call239 KC.h h λr2 h=>?_;refine br h (λh=>?_) λh=>?_
 · refine cl Tryz.call238 KC.h h λr3 h=>?_
   refine jg h (λx h=>?_) λb4 h=>?_
   · refine br h (λh=>?_) λh=>?_
     · exact jt h
     · refine cl Tryz.call239 KC.h h λr4 h=>?_
       exact jt h
   refine br h (λh=>by cases h) λh=>?_;refine⟨by kernel_rfl,?_⟩;refine bOb bOz (zs:=[.lit (.int .i64 0),.lit (.int .i64 0),.lit (.int .i64 0),.lit (.int .i64 0),.lit (.int .i64 0),.lit (.int .i64 0),.lit (.int .i64 0),.lit (.int .i64 0),.lit (.int .i64 0),.lit (.int .i64 0),.lit (.int .i64 0),.lit (.int .i64 0),.lit (.int .i64 0),.lit (.int .i64 0),.lit (.int .i64 0),.lit (.int .i64 0),.lit (.pointer none),.lit (.int .i64 0),.lit (.int .i64 0),.lit (.int .i64 0)]) rfl ?_;refine⟨by kernel_rfl,?_⟩;cases h;exact⟨.inl rfl,[100000,140],λb' o' s'=>⟨b' 140,o' 140,rfl,by kernel_rfl⟩⟩
 · refine⟨by kernel_rfl,?_⟩
   refine bOb bOz (zs:=[.lit (.int .i64 0),.lit (.int .i64 0),.lit (.int .i64 0),.lit (.int .i64 0),.lit (.int .i64 0),.lit (.int .i64 0),.lit (.int .i64 0),.lit (.int .i64 0),.lit (.int .i64 0),.lit (.int .i64 0),.lit (.int .i64 0),.lit (.int .i64 0),.lit (.int .i64 0),.lit (.int .i64 0),.lit (.int .i64 0),.lit (.int .i64 0),.lit (.pointer none),.lit (.int .i64 0),.lit (.int .i64 0),.lit (.int .i64 0)]) rfl ?_;refine⟨by kernel_rfl,?_⟩;cases h;exact⟨.inl rfl,[100000,140],λb' o' s'=>⟨b' 140,o' 140,rfl,by kernel_rfl⟩⟩
theorem eqz(w:World):(Op.equalIn 9999 244 (.agg #[.int .i64 0,.int .i64 0,.int .i64 0,.int .i64 0,.int .i64 0,.int .i64 0,.int .i64 0,.int .i64 0,.int .i64 0,.int .i64 0]) (.agg #[.int .i64 0,.int .i64 0,.int .i64 0,.int .i64 0,.int .i64 0,.int .i64 0,.int .i64 0,.int .i64 0,.int .i64 0,.int .i64 0])).run Tryz.prog w=.ok true w:=by kernel_rfl
theorem cGe:aDw Tryz.prog 246 pR:=by
 rintro⟨a0,a1,a2,a3⟩ ⟨b0,b1,b2,b3⟩ w;have e:=eqz w
 simp[pR,bD,go_sem,Op.eqFields,Program.fieldsOf] at e⊢<;>(repeat' split)<;>simp_all
theorem cFs(b:Bool)(a:bA)(w:World):(Instr.checkKey b 10000 246 (.agg ((pR a).map bD).toArray)).run Tryz.prog w=.ok () w:=by
 obtain⟨a1,a2,a3,a4⟩:=a
 kernel_rfl
abbrev kvS(a:bA):Value:=Value.agg ((pR a).map bD).toArray
theorem bCe:kU Tryz.prog 246 kvS:=
 aCf Tryz.underlying246 cGe cFs (λa w=>aOh _ rfl _ _) (by
  rintro⟨a1,a2,a3,a4⟩ ⟨b1,b2,b3,b4⟩ h
  simp[pR] at h|-
  simp_all) (λ_=>rfl)
abbrev dR(l:List (bA×Value)):List (Value×List D):=l.map λp=>(kvS p.1,[.lit p.2])
theorem bHe(s:bA)(v:Value)(i lo hi:Int)(l:List (bA×Value))(m b o:Nat)(hn:cR s l=false):aX Tryz.prog 146 [.d (.lit (.map (some m))),.bp b o 0] [mx m false (dR l),.box b o (iW s v i lo hi)]
    (λr' o'=>r'=.tup []/\o'=[mx m false (dR (l++[(s,.pointer (some ⟨b,o,none⟩))])),.box b o (iW s v i lo hi)]):=by
 refine fng xT {nd:=[0]} true [(b,o,undef),(m,0,undef)] [.d (.hv 1 100001 0),.bp 100000 0 0] [(100001,.map false (dR l)),(100000,.box (iW s v i lo hi))] [] Tryz.func146 Tryz.results146 Tryz.ntmps146 ?_;refine cBm (kv:=kvS) (enc:=λv=>[.lit v]) (agg:=false) (z:=.pointer none) (a:=s) bCe Tryz.underlying113 Tryz.zeroValue243 (λ_ _=>.d (.lit _ rfl)) (jL (enc:=pR) s rfl) ?_;refine ob2 (λh=>absurd (hn.symm.trans h) (by decide)) λ_=>?_;refine cNj (a:=s) (hq:=100000) bCe Tryz.underlying113 (jL (enc:=pR) s rfl) ?_;rw[aOq s _ l hn];exact⟨.inr rfl,[100001,100000],λ_ _ _=>⟨rfl,by kernel_rfl⟩⟩
theorem bHf(s:bA)(v:Value)(i lo hi:Int)(v':Value)(i' lo' hi':Int)(l:List (bA×Value))(m b o b' q:Nat)(hn:cR s l=true)(hg:bW s (.pointer none) l=.pointer (some ⟨b',q,none⟩)):
    aX Tryz.prog 146 [.d (.lit (.map (some m))),.bp b o 0] [mx m false (dR l),.box b o (iW s v i lo hi),.box b' q (iW s v' i' lo' hi')]
    (λr' o'=>r'=.tup []/\o'=[mx m false (dR l),.box b o (iW s v i lo hi),.box b' q (iW s v' i' (min lo' lo) (max hi' hi))]):=by
 refine fng xT {nd:=[12]} true [(b,o,undef),(m,0,undef),(b',q,undef)] [.d (.hv 1 100001 0),.bp 100000 0 0] [(100001,.map false (dR l)),(100000,.box (iW s v i lo hi)),(100002,.box (iW s v' i' lo' hi'))] [] Tryz.func146 Tryz.results146 Tryz.ntmps146 ?_;refine cOq (a:=s) 100002 bCe Tryz.underlying113 Tryz.zeroValue243 (jL (enc:=pR) s rfl) hn hg ?_;refine ob2 (λ_=>?_) λh=>by cases h
 refine⟨by kernel_rfl,?_⟩;refine cKu ?_;refine bRk ?_;refine⟨by kernel_rfl,?_⟩;exact⟨.inl rfl,[100001,100000,100002],λ_ _ _=>⟨rfl,by kernel_rfl⟩⟩
def lO(x:dL)(s:bA):Option Bool:=
 bif decide (x.Kind=3) then some (decide ((⟨s.pa,s.pb⟩:aS)=x.Pair)) else
 bif decide (x.Kind=4) then(bif decide ((⟨s.ga,s.gb⟩:aS)=x.Pair) then some (decide ((⟨s.pa,s.pb⟩:aS)=⟨0,0⟩)) else some false).bind λb=>some b
 else none
theorem bHc(s:bA)(v:Value)(i lo hi:Int)(l:List dL)(x:dL)(b o:Nat){r:Bool}(h:lO x s=some r):aX Tryz.prog 148 [.agg (rdC l),.agg (lQ x),.bp b o 0] [.box b o (iW s v i lo hi)]
    (λr' o'=>r'=.b r/\o'=[.box b o (iW s v i lo hi)]):=by
 unfold lO at h;refine fng xT {} false [(b,o,undef)] [.agg (rdC l),.agg (lQ x),.bp 100000 0 0] [(100000,.box (iW s v i lo hi))] [.tmp 6] Tryz.func148 Tryz.results148 Tryz.ntmps148 ?_;refine br h (λh=>?_) λh=>?_
 · refine⟨by kernel_rfl,?_⟩
   refine bCp (a:=(⟨s.pa,s.pb⟩:aS)) (b:=x.Pair) Tryz.eqGuardType119 aId ?_;refine⟨by kernel_rfl,?_⟩;cases h;exact⟨rfl,[100000],λ_ _ _=>⟨rfl,by kernel_rfl⟩⟩
 · refine br h (λh=>?_) λh=>by cases h
   refine⟨by kernel_rfl,?_⟩;refine bCp (a:=(⟨s.ga,s.gb⟩:aS)) (b:=x.Pair) Tryz.eqGuardType119 aId ?_;refine jo h (λy h=>?_) λb2 h=>?_
   · refine br h (λh=>?_) λh=>?_
     · refine bCp (a:=(⟨s.pa,s.pb⟩:aS)) (b:=(⟨0,0⟩:aS)) Tryz.eqGuardType119 aId ?_
       exact⟨by kernel_rfl,jt h⟩
     · exact⟨by kernel_rfl,jt h⟩
   refine⟨by kernel_rfl,?_⟩;cases h;exact⟨rfl,[100000],λ_ _ _=>⟨rfl,by kernel_rfl⟩⟩
end Go.Am
