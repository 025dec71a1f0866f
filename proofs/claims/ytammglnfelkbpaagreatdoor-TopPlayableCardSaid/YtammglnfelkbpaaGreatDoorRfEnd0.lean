/- The end of a row that lists variables: its wrap, and what its condition and the world's shape say of the variables that the walks look at. -/
import Derived.Test.YtammglnfelkbpaaGreatDoorAmClose
import Derived.Test.YtammglnfelkbpaaGreatDoorRows
import Derived.Handed
import Derived.Test.YtammglnfelkbpaaGreatDoorRfAmb
import Derived.Shelf.Vars
import Derived.Lib.LaidTab
import Derived.LaidSub
import Derived.MakeChecks
import Derived.LaidMore
import Derived.Lay
namespace Go.Proofs.YtammglnfelkbpaaGreatDoor
open Go.Am Go.ChangeShapes Go.WideShapes Go.ChangeAt Go.RowKit
set_option maxRecDepth 100000
theorem aPk{H:Type}{enc:TypeId×Value->H}{a:Assume}{C:Checked}{os:Os}{f:FuncId}{fn:Func}{s:ChangeSpec}{conds:List PathCond}{apart fresh handsOn again:Bool}{X:World->Array Value->Prop}
  (hX:∀(w w':World) (args:Array Value),w.heap=w'.heap->X w args->X w' args)
  (own:ownKnob C.prog.godebug=none)(started:os.Started)(noInit:C.prog.inits.idxOf? f=none)(hfn:C.prog.funcs[f]?=some fn)
  (witness:∃(w:World) (tape:Tape) (i:Input),w.os=os/\(w.forCall tape i).Shaped C.prog/\i.vars=[]/\Input.okWide C.prog (w.forCall tape i) .any w.heap.size f i/\
   ((s.pre enc C.prog fn conds apart (w.forCall tape i).memory i.args/\X (w.forCall tape i).memory i.args)/\sizedMet enc C.prog fn (OpenSpec.ofChange s) apart (w.forCall tape i).memory i.args)/\a.holds C.prog (lone (Frame.enter C.prog f i.args .normal) [] (w.forCall tape i)))
  (contract:∀(W:World) (base:Nat) (args:Array Value) (ds gs:List (DataW H)) (before:List MemPlace),
   (∀(j:Nat) t v,fn.params[j]?=some t->args[j]?=some v->Value.okWide C.prog W .any base t v)->
   DataW.Whole enc C.prog fn.params.toList s.vars apart W args.toList ds gs before->
   (DataW.weightsEach C.prog (fn.params.toList++s.plain.varTypes C.prog) (ds++gs)).all (·<=reachBytes)=true->X W args->W.ShapedOpen C.prog->
   Calls C.prog f args W λe W'=>∃v,e=.returned v/\s.post enc C.prog fn apart fresh handsOn again W args v W'):
  ReturnsInHanded a C os f .any (λw args=>(s.pre enc C.prog fn conds apart w args/\X w args)/\sizedMet enc C.prog fn (OpenSpec.ofChange s) apart w args) (s.post enc C.prog fn apart fresh handsOn again):=by
 refine returnsInHanded_of_calls own started noInit witness ?_;intro w tape i _ hsh _ hok hpre hholds;obtain⟨_,_,_,fn',hfn',_,_,_,_,hval⟩:=hok;have e:fn'=fn:=Option.some.inj (hfn'.symm.trans hfn);subst e;obtain⟨⟨⟨ds,gs,before,hw,hc⟩,hx⟩,hz⟩:=hpre;have hw':=DataW.Whole.of_heap (w':=w.forCall tape i) (by rfl) hw;refine(contract (w.forCall tape i) w.heap.size i.args ds gs before hval hw' (hz.weights hw) (hX _ _ _ (by rfl) hx) hsh).mono λe W' ⟨v,he,hp⟩=>?_;subst he;exact ChangeSpec.post_blind hp
def aKl:List (String×DataW Unit):=[("math/bits.deBruijn32tab",Rows.laid_math_bits_deBruijn32tab),("math/bits.deBruijn64tab",Rows.laid_math_bits_deBruijn64tab),("internal/strconv.uint64pow10",Rows.laid_internal_strconv_uint64pow10),("unicode/utf8.acceptRanges",Rows.laid_unicode_utf8_acceptRanges),("unicode/utf8.first",Rows.laid_unicode_utf8_first)]
theorem cMa{W:World}(h:laidMetH Tryz.prog aKl W):Lib.TabIs Tryz.prog W "internal/strconv.uint64pow10" .u64 Lib.pow10Tab:=by
 rw[MakeChecks.laidMetH_plain _ _ _ (by kernel_rfl)] at h;have h:=h.filter (λx=>x.1== "internal/strconv.uint64pow10");rw[show aKl.filter (λx=>x.1== "internal/strconv.uint64pow10")=[("internal/strconv.uint64pow10",Lib.tabData .u64 Lib.pow10Tab)] from by kernel_rfl] at h;exact Lib.tabIs_of_head (g:=3) (t:=427) (e:=363) (n:=20) (by kernel_rfl) (by kernel_rfl) (by kernel_rfl) (by kernel_rfl) (by kernel_rfl) (by kernel_rfl) h
theorem cJk{W:World}(h:laidMetH Tryz.prog aKl W)(hs:W.ShapedOpen Tryz.prog):Amb W (aU (λ_ _=>False) []):=by
 constructor
 ·intro p hp;obtain rfl:=List.mem_singleton.1 hp;have:=cMa h;unfold Lib.TabIs World.var? at this;rw[show Tryz.prog.globalNamed "internal/strconv.uint64pow10" =some 3 from by kernel_rfl,Option.bind_some] at this;split at this
  ·rename_i cs e f hh
   have:=Option.some.inj this;subst this;exact⟨e,f,hh,λo=>aTr _ _⟩
  ·cases this
 ·intro b hb;obtain rfl:=List.mem_singleton.1 hb;obtain⟨cs,hh,hz,hr⟩:=hs.1 0 #[.int .i64 0] 3 (of_decide_eq_true (by kernel_rfl)) (by kernel_rfl);obtain⟨ts,hts,_,hall⟩:=hr (by kernel_rfl);rw[show Tryz.prog.cellTypes Tryz.prog.depth 3=some [3] from by kernel_rfl] at hts;cases hts;have h1:cs.size=1:=hz;obtain⟨u,hu,hok⟩:=hall 0 cs[0] (by simp[h1]);obtain rfl:u=3:=by simpa using hu.symm
  unfold Cell.ok at hok;rw[Tryz.underlying3] at hok;have hcs:cs= #[cs[0]]:=by
   apply Array.ext
   ·simp[h1]
   ·intro i h2 h3;obtain rfl:i=0:=by omega
    rfl
  cases hv:cs[0]<;>rw[hv] at hok<;>simp at hok
  case int k' n=>
   rw[hcs,hv,hok.1] at hh;exact⟨n,_,_,hh,λo=>aTr _ _⟩
end Go.Proofs.YtammglnfelkbpaaGreatDoor
