/- Part F1 of a proof that runs a program's calls on a small machine whose values bear no addresses: no conditions. -/
import Derived.Test.YtfhoagkadjinlaaAmS1
import Derived.Test.YtfhoagkadjinlaaProg
import Derived.KernelRfl
set_option autoImplicit false
set_option linter.unusedSimpArgs false
set_option linter.unusedVariables false
set_option linter.unusedSectionVars false
namespace Go.Am
open Go Go.Proofs
noncomputable def XX (fz:Nat→Md):X:=mkX Try.prog fz
theorem XX_fz (fz:Nat→Md):(XX fz).fz=fz:=rfl
variable {fz:Nat→Md}
@[go_sem] theorem ti0:(XX fz).ti 0=some { kind:=TK.other,size:=1,bytes:=0,zero:=none }:=by kernel_rfl
@[go_sem] theorem ti1:(XX fz).ti 1=some { kind:=TK.func,size:=1,bytes:=8,zero:=some [A.d D.nfunc],zval:=A.d D.nfunc }:=by kernel_rfl
@[go_sem] theorem ti2:(XX fz).ti 2=some { kind:=TK.int IntKind.i64,size:=1,bytes:=8,zero:=some [A.d (D.int IntKind.i64 0)],zval:=A.d (D.int IntKind.i64 0) }:=by kernel_rfl
@[go_sem] theorem ti3:(XX fz).ti 3=some { kind:=TK.int IntKind.i64,size:=1,bytes:=8,zero:=some [A.d (D.int IntKind.i64 0)],zval:=A.d (D.int IntKind.i64 0) }:=by kernel_rfl
@[go_sem] theorem ti4:(XX fz).ti 4=some { kind:=TK.bool,size:=1,bytes:=1,zero:=some [A.d (D.bool false)],zval:=A.d (D.bool false) }:=by kernel_rfl
@[go_sem] theorem ti5:(XX fz).ti 5=some { kind:=TK.int IntKind.u8,size:=1,bytes:=1,zero:=some [A.d (D.int IntKind.u8 0)],zval:=A.d (D.int IntKind.u8 0) }:=by kernel_rfl
@[go_sem] theorem ti6:(XX fz).ti 6=some { kind:=TK.int IntKind.u8,size:=1,bytes:=1,zero:=some [A.d (D.int IntKind.u8 0)],zval:=A.d (D.int IntKind.u8 0) }:=by kernel_rfl
@[go_sem] theorem ti7:(XX fz).ti 7=some { kind:=TK.struct [(0,1,2),(1,1,3),(2,1,4),(3,1,6)],size:=4,bytes:=24,zero:=some [A.d (D.int IntKind.i64 0),A.d (D.int IntKind.i64 0),A.d (D.bool false),A.d (D.int IntKind.u8 0)],zval:=A.agg [A.d (D.int IntKind.i64 0),A.d (D.int IntKind.i64 0),A.d (D.bool false),A.d (D.int IntKind.u8 0)] }:=by kernel_rfl
@[go_sem] theorem ti8:(XX fz).ti 8=some { kind:=TK.struct [(0,1,2),(1,1,3),(2,1,4),(3,1,6)],size:=4,bytes:=24,zero:=some [A.d (D.int IntKind.i64 0),A.d (D.int IntKind.i64 0),A.d (D.bool false),A.d (D.int IntKind.u8 0)],zval:=A.agg [A.d (D.int IntKind.i64 0),A.d (D.int IntKind.i64 0),A.d (D.bool false),A.d (D.int IntKind.u8 0)] }:=by kernel_rfl
@[go_sem] theorem ti9:(XX fz).ti 9=some { kind:=TK.str,size:=1,bytes:=16,zero:=some [A.d (D.str { data:={ toList:=[] } })],zval:=A.d (D.str { data:={ toList:=[] } }) }:=by kernel_rfl
@[go_sem] theorem ti10:(XX fz).ti 10=some { kind:=TK.str,size:=1,bytes:=16,zero:=some [A.d (D.str { data:={ toList:=[] } })],zval:=A.d (D.str { data:={ toList:=[] } }) }:=by kernel_rfl
@[go_sem] theorem ti11:(XX fz).ti 11=some { kind:=TK.str,size:=1,bytes:=16,zero:=some [A.d (D.str { data:={ toList:=[] } })],zval:=A.d (D.str { data:={ toList:=[] } }) }:=by kernel_rfl
@[go_sem] theorem ti12:(XX fz).ti 12=some { kind:=TK.int IntKind.u64,size:=1,bytes:=8,zero:=some [A.d (D.int IntKind.u64 0)],zval:=A.d (D.int IntKind.u64 0) }:=by kernel_rfl
@[go_sem] theorem ti13:(XX fz).ti 13=some { kind:=TK.struct [(0,1,9),(1,1,12)],size:=2,bytes:=24,zero:=some [A.d (D.str { data:={ toList:=[] } }),A.d (D.int IntKind.u64 0)],zval:=A.agg [A.d (D.str { data:={ toList:=[] } }),A.d (D.int IntKind.u64 0)] }:=by kernel_rfl
@[go_sem] theorem ti14:(XX fz).ti 14=some { kind:=TK.struct [(0,1,9),(1,1,12)],size:=2,bytes:=24,zero:=some [A.d (D.str { data:={ toList:=[] } }),A.d (D.int IntKind.u64 0)],zval:=A.agg [A.d (D.str { data:={ toList:=[] } }),A.d (D.int IntKind.u64 0)] }:=by kernel_rfl
@[go_sem] theorem ti15:(XX fz).ti 15=some { kind:=TK.ptr 187,size:=1,bytes:=8,zero:=some [A.d D.nptr],zval:=A.d D.nptr }:=by kernel_rfl
@[go_sem] theorem ti16:(XX fz).ti 16=some { kind:=TK.ptr 190,size:=1,bytes:=8,zero:=some [A.d D.nptr],zval:=A.d D.nptr }:=by kernel_rfl
@[go_sem] theorem ti17:(XX fz).ti 17=some { kind:=TK.ptr 199,size:=1,bytes:=8,zero:=some [A.d D.nptr],zval:=A.d D.nptr }:=by kernel_rfl
@[go_sem] theorem ti18:(XX fz).ti 18=some { kind:=TK.struct [(0,1,17)],size:=1,bytes:=8,zero:=some [A.d D.nptr],zval:=A.agg [A.d D.nptr] }:=by kernel_rfl
@[go_sem] theorem ti19:(XX fz).ti 19=some { kind:=TK.struct [(0,1,17)],size:=1,bytes:=8,zero:=some [A.d D.nptr],zval:=A.agg [A.d D.nptr] }:=by kernel_rfl
@[go_sem] theorem ti20:(XX fz).ti 20=some { kind:=TK.other,size:=1,bytes:=16,zero:=none }:=by kernel_rfl
@[go_sem] theorem ti21:(XX fz).ti 21=some { kind:=TK.int IntKind.i32,size:=1,bytes:=4,zero:=some [A.d (D.int IntKind.i32 0)],zval:=A.d (D.int IntKind.i32 0) }:=by kernel_rfl
@[go_sem] theorem ti22:(XX fz).ti 22=some { kind:=TK.slc 42,size:=1,bytes:=24,zero:=some [A.d (D.slc true [])],zval:=A.d (D.slc true []) }:=by kernel_rfl
@[go_sem] theorem ti23:(XX fz).ti 23=some { kind:=TK.struct [(0,1,3),(1,1,22)],size:=2,bytes:=32,zero:=some [A.d (D.int IntKind.i64 0),A.d (D.slc true [])],zval:=A.agg [A.d (D.int IntKind.i64 0),A.d (D.slc true [])] }:=by kernel_rfl
@[go_sem] theorem ti24:(XX fz).ti 24=some { kind:=TK.struct [(0,1,3),(1,1,22)],size:=2,bytes:=32,zero:=some [A.d (D.int IntKind.i64 0),A.d (D.slc true [])],zval:=A.agg [A.d (D.int IntKind.i64 0),A.d (D.slc true [])] }:=by kernel_rfl
@[go_sem] theorem ti25:(XX fz).ti 25=some { kind:=TK.slc 3,size:=1,bytes:=24,zero:=some [A.d (D.slc true [])],zval:=A.d (D.slc true []) }:=by kernel_rfl
@[go_sem] theorem ti26:(XX fz).ti 26=some { kind:=TK.func,size:=1,bytes:=8,zero:=some [A.d D.nfunc],zval:=A.d D.nfunc }:=by kernel_rfl
@[go_sem] theorem ti27:(XX fz).ti 27=some { kind:=TK.func,size:=1,bytes:=8,zero:=some [A.d D.nfunc],zval:=A.d D.nfunc }:=by kernel_rfl
@[go_sem] theorem ti28:(XX fz).ti 28=some { kind:=TK.func,size:=1,bytes:=8,zero:=some [A.d D.nfunc],zval:=A.d D.nfunc }:=by kernel_rfl
@[go_sem] theorem ti29:(XX fz).ti 29=some { kind:=TK.func,size:=1,bytes:=8,zero:=some [A.d D.nfunc],zval:=A.d D.nfunc }:=by kernel_rfl
@[go_sem] theorem ti30:(XX fz).ti 30=some { kind:=TK.ptr 85,size:=1,bytes:=8,zero:=some [A.d D.nptr],zval:=A.d D.nptr }:=by kernel_rfl
@[go_sem] theorem ti31:(XX fz).ti 31=some { kind:=TK.int IntKind.i64,size:=1,bytes:=8,zero:=some [A.d (D.int IntKind.i64 0)],zval:=A.d (D.int IntKind.i64 0) }:=by kernel_rfl
@[go_sem] theorem ti32:(XX fz).ti 32=some { kind:=TK.other,size:=1,bytes:=0,zero:=none }:=by kernel_rfl
@[go_sem] theorem ti33:(XX fz).ti 33=some { kind:=TK.func,size:=1,bytes:=8,zero:=some [A.d D.nfunc],zval:=A.d D.nfunc }:=by kernel_rfl
@[go_sem] theorem ti34:(XX fz).ti 34=some { kind:=TK.ptr 94,size:=1,bytes:=8,zero:=some [A.d D.nptr],zval:=A.d D.nptr }:=by kernel_rfl
@[go_sem] theorem ti35:(XX fz).ti 35=some { kind:=TK.other,size:=1,bytes:=0,zero:=none }:=by kernel_rfl
@[go_sem] theorem ti36:(XX fz).ti 36=some { kind:=TK.func,size:=1,bytes:=8,zero:=some [A.d D.nfunc],zval:=A.d D.nfunc }:=by kernel_rfl
@[go_sem] theorem ti37:(XX fz).ti 37=some { kind:=TK.func,size:=1,bytes:=8,zero:=some [A.d D.nfunc],zval:=A.d D.nfunc }:=by kernel_rfl
@[go_sem] theorem ti38:(XX fz).ti 38=some { kind:=TK.slc 40,size:=1,bytes:=24,zero:=some [A.d (D.slc true [])],zval:=A.d (D.slc true []) }:=by kernel_rfl
@[go_sem] theorem ti39:(XX fz).ti 39=some { kind:=TK.struct [(0,1,3),(1,1,3),(2,1,38)],size:=3,bytes:=40,zero:=some [A.d (D.int IntKind.i64 0),A.d (D.int IntKind.i64 0),A.d (D.slc true [])],zval:=A.agg [A.d (D.int IntKind.i64 0),A.d (D.int IntKind.i64 0),A.d (D.slc true [])] }:=by kernel_rfl
@[go_sem] theorem ti40:(XX fz).ti 40=some { kind:=TK.struct [(0,1,3),(1,1,3),(2,1,38)],size:=3,bytes:=40,zero:=some [A.d (D.int IntKind.i64 0),A.d (D.int IntKind.i64 0),A.d (D.slc true [])],zval:=A.agg [A.d (D.int IntKind.i64 0),A.d (D.int IntKind.i64 0),A.d (D.slc true [])] }:=by kernel_rfl
@[go_sem] theorem ti41:(XX fz).ti 41=some { kind:=TK.struct [(0,1,9),(1,3,40)],size:=4,bytes:=56,zero:=some [A.d (D.str { data:={ toList:=[] } }),A.d (D.int IntKind.i64 0),A.d (D.int IntKind.i64 0),A.d (D.slc true [])],zval:=A.agg [A.d (D.str { data:={ toList:=[] } }),A.d (D.int IntKind.i64 0),A.d (D.int IntKind.i64 0),A.d (D.slc true [])] }:=by kernel_rfl
@[go_sem] theorem ti42:(XX fz).ti 42=some { kind:=TK.struct [(0,1,9),(1,3,40)],size:=4,bytes:=56,zero:=some [A.d (D.str { data:={ toList:=[] } }),A.d (D.int IntKind.i64 0),A.d (D.int IntKind.i64 0),A.d (D.slc true [])],zval:=A.agg [A.d (D.str { data:={ toList:=[] } }),A.d (D.int IntKind.i64 0),A.d (D.int IntKind.i64 0),A.d (D.slc true [])] }:=by kernel_rfl
@[go_sem] theorem ti43:(XX fz).ti 43=some { kind:=TK.other,size:=1,bytes:=0,zero:=none }:=by kernel_rfl
@[go_sem] theorem ti44:(XX fz).ti 44=some { kind:=TK.func,size:=1,bytes:=8,zero:=some [A.d D.nfunc],zval:=A.d D.nfunc }:=by kernel_rfl
@[go_sem] theorem ti45:(XX fz).ti 45=some { kind:=TK.other,size:=1,bytes:=0,zero:=none }:=by kernel_rfl
@[go_sem] theorem ti46:(XX fz).ti 46=some { kind:=TK.func,size:=1,bytes:=8,zero:=some [A.d D.nfunc],zval:=A.d D.nfunc }:=by kernel_rfl
@[go_sem] theorem ti47:(XX fz).ti 47=some { kind:=TK.func,size:=1,bytes:=8,zero:=some [A.d D.nfunc],zval:=A.d D.nfunc }:=by kernel_rfl
@[go_sem] theorem ti48:(XX fz).ti 48=some { kind:=TK.func,size:=1,bytes:=8,zero:=some [A.d D.nfunc],zval:=A.d D.nfunc }:=by kernel_rfl
@[go_sem] theorem ti49:(XX fz).ti 49=some { kind:=TK.ptr 101,size:=1,bytes:=8,zero:=some [A.d D.nptr],zval:=A.d D.nptr }:=by kernel_rfl
@[go_sem] theorem ti50:(XX fz).ti 50=some { kind:=TK.other,size:=1,bytes:=0,zero:=none }:=by kernel_rfl
@[go_sem] theorem ti51:(XX fz).ti 51=some { kind:=TK.func,size:=1,bytes:=8,zero:=some [A.d D.nfunc],zval:=A.d D.nfunc }:=by kernel_rfl
@[go_sem] theorem ti52:(XX fz).ti 52=some { kind:=TK.func,size:=1,bytes:=8,zero:=some [A.d D.nfunc],zval:=A.d D.nfunc }:=by kernel_rfl
@[go_sem] theorem ti53:(XX fz).ti 53=some { kind:=TK.func,size:=1,bytes:=8,zero:=some [A.d D.nfunc],zval:=A.d D.nfunc }:=by kernel_rfl
@[go_sem] theorem ti54:(XX fz).ti 54=some { kind:=TK.func,size:=1,bytes:=8,zero:=some [A.d D.nfunc],zval:=A.d D.nfunc }:=by kernel_rfl
@[go_sem] theorem ti55:(XX fz).ti 55=some { kind:=TK.ptr 107,size:=1,bytes:=8,zero:=some [A.d D.nptr],zval:=A.d D.nptr }:=by kernel_rfl
@[go_sem] theorem ti56:(XX fz).ti 56=some { kind:=TK.other,size:=1,bytes:=0,zero:=none }:=by kernel_rfl
@[go_sem] theorem ti57:(XX fz).ti 57=some { kind:=TK.func,size:=1,bytes:=8,zero:=some [A.d D.nfunc],zval:=A.d D.nfunc }:=by kernel_rfl
@[go_sem] theorem ti58:(XX fz).ti 58=some { kind:=TK.func,size:=1,bytes:=8,zero:=some [A.d D.nfunc],zval:=A.d D.nfunc }:=by kernel_rfl
@[go_sem] theorem ti59:(XX fz).ti 59=some { kind:=TK.slc 67,size:=1,bytes:=24,zero:=some [A.d (D.slc true [])],zval:=A.d (D.slc true []) }:=by kernel_rfl
@[go_sem] theorem ti60:(XX fz).ti 60=some { kind:=TK.struct [(0,1,59),(1,1,25),(2,1,25)],size:=3,bytes:=72,zero:=some [A.d (D.slc true []),A.d (D.slc true []),A.d (D.slc true [])],zval:=A.agg [A.d (D.slc true []),A.d (D.slc true []),A.d (D.slc true [])] }:=by kernel_rfl
@[go_sem] theorem ti61:(XX fz).ti 61=some { kind:=TK.struct [(0,1,59),(1,1,25),(2,1,25)],size:=3,bytes:=72,zero:=some [A.d (D.slc true []),A.d (D.slc true []),A.d (D.slc true [])],zval:=A.agg [A.d (D.slc true []),A.d (D.slc true []),A.d (D.slc true [])] }:=by kernel_rfl
@[go_sem] theorem ti62:(XX fz).ti 62=some { kind:=TK.struct [(0,1,3),(1,1,25)],size:=2,bytes:=32,zero:=some [A.d (D.int IntKind.i64 0),A.d (D.slc true [])],zval:=A.agg [A.d (D.int IntKind.i64 0),A.d (D.slc true [])] }:=by kernel_rfl
@[go_sem] theorem ti63:(XX fz).ti 63=some { kind:=TK.struct [(0,1,3),(1,1,25)],size:=2,bytes:=32,zero:=some [A.d (D.int IntKind.i64 0),A.d (D.slc true [])],zval:=A.agg [A.d (D.int IntKind.i64 0),A.d (D.slc true [])] }:=by kernel_rfl
@[go_sem] theorem ti64:(XX fz).ti 64=some { kind:=TK.other,size:=1,bytes:=0,zero:=none }:=by kernel_rfl
@[go_sem] theorem ti65:(XX fz).ti 65=some { kind:=TK.func,size:=1,bytes:=8,zero:=some [A.d D.nfunc],zval:=A.d D.nfunc }:=by kernel_rfl
@[go_sem] theorem ti66:(XX fz).ti 66=some { kind:=TK.func,size:=1,bytes:=8,zero:=some [A.d D.nfunc],zval:=A.d D.nfunc }:=by kernel_rfl
@[go_sem] theorem ti67:(XX fz).ti 67=some { kind:=TK.slc 89,size:=1,bytes:=24,zero:=some [A.d (D.slc true [])],zval:=A.d (D.slc true []) }:=by kernel_rfl
@[go_sem] theorem ti68:(XX fz).ti 68=some { kind:=TK.other,size:=1,bytes:=0,zero:=none }:=by kernel_rfl
@[go_sem] theorem ti69:(XX fz).ti 69=some { kind:=TK.func,size:=1,bytes:=8,zero:=some [A.d D.nfunc],zval:=A.d D.nfunc }:=by kernel_rfl
@[go_sem] theorem ti70:(XX fz).ti 70=some { kind:=TK.other,size:=1,bytes:=0,zero:=none }:=by kernel_rfl
@[go_sem] theorem ti71:(XX fz).ti 71=some { kind:=TK.func,size:=1,bytes:=8,zero:=some [A.d D.nfunc],zval:=A.d D.nfunc }:=by kernel_rfl
@[go_sem] theorem ti72:(XX fz).ti 72=some { kind:=TK.func,size:=1,bytes:=8,zero:=some [A.d D.nfunc],zval:=A.d D.nfunc }:=by kernel_rfl
@[go_sem] theorem ti73:(XX fz).ti 73=some { kind:=TK.func,size:=1,bytes:=8,zero:=some [A.d D.nfunc],zval:=A.d D.nfunc }:=by kernel_rfl
@[go_sem] theorem ti74:(XX fz).ti 74=some { kind:=TK.other,size:=1,bytes:=0,zero:=none }:=by kernel_rfl
@[go_sem] theorem ti75:(XX fz).ti 75=some { kind:=TK.func,size:=1,bytes:=8,zero:=some [A.d D.nfunc],zval:=A.d D.nfunc }:=by kernel_rfl
@[go_sem] theorem ti76:(XX fz).ti 76=some { kind:=TK.func,size:=1,bytes:=8,zero:=some [A.d D.nfunc],zval:=A.d D.nfunc }:=by kernel_rfl
@[go_sem] theorem ti77:(XX fz).ti 77=some { kind:=TK.func,size:=1,bytes:=8,zero:=some [A.d D.nfunc],zval:=A.d D.nfunc }:=by kernel_rfl
@[go_sem] theorem ti78:(XX fz).ti 78=some { kind:=TK.func,size:=1,bytes:=8,zero:=some [A.d D.nfunc],zval:=A.d D.nfunc }:=by kernel_rfl
@[go_sem] theorem ti79:(XX fz).ti 79=some { kind:=TK.other,size:=1,bytes:=0,zero:=none }:=by kernel_rfl
@[go_sem] theorem ti80:(XX fz).ti 80=some { kind:=TK.func,size:=1,bytes:=8,zero:=some [A.d D.nfunc],zval:=A.d D.nfunc }:=by kernel_rfl
@[go_sem] theorem ti81:(XX fz).ti 81=some { kind:=TK.slc 25,size:=1,bytes:=24,zero:=some [A.d (D.slc true [])],zval:=A.d (D.slc true []) }:=by kernel_rfl
@[go_sem] theorem ti82:(XX fz).ti 82=some { kind:=TK.slc 4,size:=1,bytes:=24,zero:=some [A.d (D.slc true [])],zval:=A.d (D.slc true []) }:=by kernel_rfl
@[go_sem] theorem ti83:(XX fz).ti 83=some { kind:=TK.map 129 25,size:=1,bytes:=8,zero:=some [A.d D.nmap],zval:=A.d D.nmap }:=by kernel_rfl
@[go_sem] theorem ti84:(XX fz).ti 84=some { kind:=TK.struct [(0,3,61),(3,1,25),(4,1,81),(5,1,82),(6,1,83)],size:=7,bytes:=152,zero:=some [A.d (D.slc true []),A.d (D.slc true []),A.d (D.slc true []),A.d (D.slc true []),A.d (D.slc true []),A.d (D.slc true []),A.d D.nmap],zval:=A.agg [A.d (D.slc true []),A.d (D.slc true []),A.d (D.slc true []),A.d (D.slc true []),A.d (D.slc true []),A.d (D.slc true []),A.d D.nmap] }:=by kernel_rfl
@[go_sem] theorem ti85:(XX fz).ti 85=some { kind:=TK.struct [(0,3,61),(3,1,25),(4,1,81),(5,1,82),(6,1,83)],size:=7,bytes:=152,zero:=some [A.d (D.slc true []),A.d (D.slc true []),A.d (D.slc true []),A.d (D.slc true []),A.d (D.slc true []),A.d (D.slc true []),A.d D.nmap],zval:=A.agg [A.d (D.slc true []),A.d (D.slc true []),A.d (D.slc true []),A.d (D.slc true []),A.d (D.slc true []),A.d (D.slc true []),A.d D.nmap] }:=by kernel_rfl
@[go_sem] theorem ti86:(XX fz).ti 86=some { kind:=TK.func,size:=1,bytes:=8,zero:=some [A.d D.nfunc],zval:=A.d D.nfunc }:=by kernel_rfl
@[go_sem] theorem ti87:(XX fz).ti 87=some { kind:=TK.func,size:=1,bytes:=8,zero:=some [A.d D.nfunc],zval:=A.d D.nfunc }:=by kernel_rfl
@[go_sem] theorem ti88:(XX fz).ti 88=some { kind:=TK.struct [(0,1,3),(1,1,3),(2,1,3)],size:=3,bytes:=24,zero:=some [A.d (D.int IntKind.i64 0),A.d (D.int IntKind.i64 0),A.d (D.int IntKind.i64 0)],zval:=A.agg [A.d (D.int IntKind.i64 0),A.d (D.int IntKind.i64 0),A.d (D.int IntKind.i64 0)] }:=by kernel_rfl
@[go_sem] theorem ti89:(XX fz).ti 89=some { kind:=TK.struct [(0,1,3),(1,1,3),(2,1,3)],size:=3,bytes:=24,zero:=some [A.d (D.int IntKind.i64 0),A.d (D.int IntKind.i64 0),A.d (D.int IntKind.i64 0)],zval:=A.agg [A.d (D.int IntKind.i64 0),A.d (D.int IntKind.i64 0),A.d (D.int IntKind.i64 0)] }:=by kernel_rfl
@[go_sem] theorem ti90:(XX fz).ti 90=some { kind:=TK.ptr 96,size:=1,bytes:=8,zero:=some [A.d D.nptr],zval:=A.d D.nptr }:=by kernel_rfl
@[go_sem] theorem ti91:(XX fz).ti 91=some { kind:=TK.other,size:=1,bytes:=0,zero:=none }:=by kernel_rfl
@[go_sem] theorem ti92:(XX fz).ti 92=some { kind:=TK.func,size:=1,bytes:=8,zero:=some [A.d D.nfunc],zval:=A.d D.nfunc }:=by kernel_rfl
@[go_sem] theorem ti93:(XX fz).ti 93=some { kind:=TK.struct [(0,1,90),(1,1,82)],size:=2,bytes:=32,zero:=some [A.d D.nptr,A.d (D.slc true [])],zval:=A.agg [A.d D.nptr,A.d (D.slc true [])] }:=by kernel_rfl
@[go_sem] theorem ti94:(XX fz).ti 94=some { kind:=TK.struct [(0,1,90),(1,1,82)],size:=2,bytes:=32,zero:=some [A.d D.nptr,A.d (D.slc true [])],zval:=A.agg [A.d D.nptr,A.d (D.slc true [])] }:=by kernel_rfl
@[go_sem] theorem ti95:(XX fz).ti 95=some { kind:=TK.struct [(0,2,24),(2,3,61),(5,1,25),(6,1,3)],size:=7,bytes:=136,zero:=some [A.d (D.int IntKind.i64 0),A.d (D.slc true []),A.d (D.slc true []),A.d (D.slc true []),A.d (D.slc true []),A.d (D.slc true []),A.d (D.int IntKind.i64 0)],zval:=A.agg [A.d (D.int IntKind.i64 0),A.d (D.slc true []),A.d (D.slc true []),A.d (D.slc true []),A.d (D.slc true []),A.d (D.slc true []),A.d (D.int IntKind.i64 0)] }:=by kernel_rfl
@[go_sem] theorem ti96:(XX fz).ti 96=some { kind:=TK.struct [(0,2,24),(2,3,61),(5,1,25),(6,1,3)],size:=7,bytes:=136,zero:=some [A.d (D.int IntKind.i64 0),A.d (D.slc true []),A.d (D.slc true []),A.d (D.slc true []),A.d (D.slc true []),A.d (D.slc true []),A.d (D.int IntKind.i64 0)],zval:=A.agg [A.d (D.int IntKind.i64 0),A.d (D.slc true []),A.d (D.slc true []),A.d (D.slc true []),A.d (D.slc true []),A.d (D.slc true []),A.d (D.int IntKind.i64 0)] }:=by kernel_rfl
@[go_sem] theorem ti97:(XX fz).ti 97=some { kind:=TK.func,size:=1,bytes:=8,zero:=some [A.d D.nfunc],zval:=A.d D.nfunc }:=by kernel_rfl
@[go_sem] theorem ti98:(XX fz).ti 98=some { kind:=TK.func,size:=1,bytes:=8,zero:=some [A.d D.nfunc],zval:=A.d D.nfunc }:=by kernel_rfl
@[go_sem] theorem ti99:(XX fz).ti 99=some { kind:=TK.func,size:=1,bytes:=8,zero:=some [A.d D.nfunc],zval:=A.d D.nfunc }:=by kernel_rfl
@[go_sem] theorem ti100:(XX fz).ti 100=some { kind:=TK.struct [(0,1,59),(1,1,25),(2,1,25),(3,1,25),(4,1,81),(5,1,82)],size:=6,bytes:=144,zero:=some [A.d (D.slc true []),A.d (D.slc true []),A.d (D.slc true []),A.d (D.slc true []),A.d (D.slc true []),A.d (D.slc true [])],zval:=A.agg [A.d (D.slc true []),A.d (D.slc true []),A.d (D.slc true []),A.d (D.slc true []),A.d (D.slc true []),A.d (D.slc true [])] }:=by kernel_rfl
@[go_sem] theorem ti101:(XX fz).ti 101=some { kind:=TK.struct [(0,1,59),(1,1,25),(2,1,25),(3,1,25),(4,1,81),(5,1,82)],size:=6,bytes:=144,zero:=some [A.d (D.slc true []),A.d (D.slc true []),A.d (D.slc true []),A.d (D.slc true []),A.d (D.slc true []),A.d (D.slc true [])],zval:=A.agg [A.d (D.slc true []),A.d (D.slc true []),A.d (D.slc true []),A.d (D.slc true []),A.d (D.slc true []),A.d (D.slc true [])] }:=by kernel_rfl
@[go_sem] theorem ti102:(XX fz).ti 102=some { kind:=TK.func,size:=1,bytes:=8,zero:=some [A.d D.nfunc],zval:=A.d D.nfunc }:=by kernel_rfl
@[go_sem] theorem ti103:(XX fz).ti 103=some { kind:=TK.func,size:=1,bytes:=8,zero:=some [A.d D.nfunc],zval:=A.d D.nfunc }:=by kernel_rfl
@[go_sem] theorem ti104:(XX fz).ti 104=some { kind:=TK.func,size:=1,bytes:=8,zero:=some [A.d D.nfunc],zval:=A.d D.nfunc }:=by kernel_rfl
@[go_sem] theorem ti105:(XX fz).ti 105=some { kind:=TK.slc 108,size:=1,bytes:=24,zero:=some [A.d (D.slc true [])],zval:=A.d (D.slc true []) }:=by kernel_rfl
@[go_sem] theorem ti106:(XX fz).ti 106=some { kind:=TK.struct [(0,3,61),(3,1,25),(4,1,105)],size:=5,bytes:=120,zero:=some [A.d (D.slc true []),A.d (D.slc true []),A.d (D.slc true []),A.d (D.slc true []),A.d (D.slc true [])],zval:=A.agg [A.d (D.slc true []),A.d (D.slc true []),A.d (D.slc true []),A.d (D.slc true []),A.d (D.slc true [])] }:=by kernel_rfl
@[go_sem] theorem ti107:(XX fz).ti 107=some { kind:=TK.struct [(0,3,61),(3,1,25),(4,1,105)],size:=5,bytes:=120,zero:=some [A.d (D.slc true []),A.d (D.slc true []),A.d (D.slc true []),A.d (D.slc true []),A.d (D.slc true [])],zval:=A.agg [A.d (D.slc true []),A.d (D.slc true []),A.d (D.slc true []),A.d (D.slc true []),A.d (D.slc true [])] }:=by kernel_rfl
@[go_sem] theorem ti108:(XX fz).ti 108=some { kind:=TK.arr 2 1 3,size:=2,bytes:=16,zero:=some [A.d (D.int IntKind.i64 0),A.d (D.int IntKind.i64 0)],zval:=A.agg [A.d (D.int IntKind.i64 0),A.d (D.int IntKind.i64 0)] }:=by kernel_rfl
@[go_sem] theorem ti109:(XX fz).ti 109=some { kind:=TK.func,size:=1,bytes:=8,zero:=some [A.d D.nfunc],zval:=A.d D.nfunc }:=by kernel_rfl
@[go_sem] theorem ti110:(XX fz).ti 110=some { kind:=TK.func,size:=1,bytes:=8,zero:=some [A.d D.nfunc],zval:=A.d D.nfunc }:=by kernel_rfl
@[go_sem] theorem ti111:(XX fz).ti 111=some { kind:=TK.func,size:=1,bytes:=8,zero:=some [A.d D.nfunc],zval:=A.d D.nfunc }:=by kernel_rfl
@[go_sem] theorem ti112:(XX fz).ti 112=some { kind:=TK.func,size:=1,bytes:=8,zero:=some [A.d D.nfunc],zval:=A.d D.nfunc }:=by kernel_rfl
@[go_sem] theorem ti113:(XX fz).ti 113=some { kind:=TK.func,size:=1,bytes:=8,zero:=some [A.d D.nfunc],zval:=A.d D.nfunc }:=by kernel_rfl
@[go_sem] theorem ti114:(XX fz).ti 114=some { kind:=TK.func,size:=1,bytes:=8,zero:=some [A.d D.nfunc],zval:=A.d D.nfunc }:=by kernel_rfl
@[go_sem] theorem ti115:(XX fz).ti 115=some { kind:=TK.func,size:=1,bytes:=8,zero:=some [A.d D.nfunc],zval:=A.d D.nfunc }:=by kernel_rfl
@[go_sem] theorem ti116:(XX fz).ti 116=some { kind:=TK.func,size:=1,bytes:=8,zero:=some [A.d D.nfunc],zval:=A.d D.nfunc }:=by kernel_rfl
@[go_sem] theorem ti117:(XX fz).ti 117=some { kind:=TK.func,size:=1,bytes:=8,zero:=some [A.d D.nfunc],zval:=A.d D.nfunc }:=by kernel_rfl
@[go_sem] theorem ti118:(XX fz).ti 118=some { kind:=TK.func,size:=1,bytes:=8,zero:=some [A.d D.nfunc],zval:=A.d D.nfunc }:=by kernel_rfl
@[go_sem] theorem ti119:(XX fz).ti 119=some { kind:=TK.func,size:=1,bytes:=8,zero:=some [A.d D.nfunc],zval:=A.d D.nfunc }:=by kernel_rfl
@[go_sem] theorem ti120:(XX fz).ti 120=some { kind:=TK.func,size:=1,bytes:=8,zero:=some [A.d D.nfunc],zval:=A.d D.nfunc }:=by kernel_rfl
@[go_sem] theorem ti121:(XX fz).ti 121=some { kind:=TK.func,size:=1,bytes:=8,zero:=some [A.d D.nfunc],zval:=A.d D.nfunc }:=by kernel_rfl
@[go_sem] theorem ti122:(XX fz).ti 122=some { kind:=TK.func,size:=1,bytes:=8,zero:=some [A.d D.nfunc],zval:=A.d D.nfunc }:=by kernel_rfl
@[go_sem] theorem ti123:(XX fz).ti 123=some { kind:=TK.func,size:=1,bytes:=8,zero:=some [A.d D.nfunc],zval:=A.d D.nfunc }:=by kernel_rfl
@[go_sem] theorem ti124:(XX fz).ti 124=some { kind:=TK.func,size:=1,bytes:=8,zero:=some [A.d D.nfunc],zval:=A.d D.nfunc }:=by kernel_rfl
@[go_sem] theorem ti125:(XX fz).ti 125=some { kind:=TK.func,size:=1,bytes:=8,zero:=some [A.d D.nfunc],zval:=A.d D.nfunc }:=by kernel_rfl
@[go_sem] theorem ti126:(XX fz).ti 126=some { kind:=TK.func,size:=1,bytes:=8,zero:=some [A.d D.nfunc],zval:=A.d D.nfunc }:=by kernel_rfl
@[go_sem] theorem ti127:(XX fz).ti 127=some { kind:=TK.func,size:=1,bytes:=8,zero:=some [A.d D.nfunc],zval:=A.d D.nfunc }:=by kernel_rfl
@[go_sem] theorem ti128:(XX fz).ti 128=some { kind:=TK.arr 6 1 3,size:=6,bytes:=48,zero:=some [A.d (D.int IntKind.i64 0),A.d (D.int IntKind.i64 0),A.d (D.int IntKind.i64 0),A.d (D.int IntKind.i64 0),A.d (D.int IntKind.i64 0),A.d (D.int IntKind.i64 0)],zval:=A.agg [A.d (D.int IntKind.i64 0),A.d (D.int IntKind.i64 0),A.d (D.int IntKind.i64 0),A.d (D.int IntKind.i64 0),A.d (D.int IntKind.i64 0),A.d (D.int IntKind.i64 0)] }:=by kernel_rfl
@[go_sem] theorem ti129:(XX fz).ti 129=some { kind:=TK.arr 6 1 3,size:=6,bytes:=48,zero:=some [A.d (D.int IntKind.i64 0),A.d (D.int IntKind.i64 0),A.d (D.int IntKind.i64 0),A.d (D.int IntKind.i64 0),A.d (D.int IntKind.i64 0),A.d (D.int IntKind.i64 0)],zval:=A.agg [A.d (D.int IntKind.i64 0),A.d (D.int IntKind.i64 0),A.d (D.int IntKind.i64 0),A.d (D.int IntKind.i64 0),A.d (D.int IntKind.i64 0),A.d (D.int IntKind.i64 0)] }:=by kernel_rfl
@[go_sem] theorem ti130:(XX fz).ti 130=some { kind:=TK.other,size:=1,bytes:=0,zero:=none }:=by kernel_rfl
@[go_sem] theorem ti131:(XX fz).ti 131=some { kind:=TK.func,size:=1,bytes:=8,zero:=some [A.d D.nfunc],zval:=A.d D.nfunc }:=by kernel_rfl
@[go_sem] theorem ti132:(XX fz).ti 132=some { kind:=TK.ptr 138,size:=1,bytes:=8,zero:=some [A.d D.nptr],zval:=A.d D.nptr }:=by kernel_rfl
@[go_sem] theorem ti133:(XX fz).ti 133=some { kind:=TK.func,size:=1,bytes:=8,zero:=some [A.d D.nfunc],zval:=A.d D.nfunc }:=by kernel_rfl
@[go_sem] theorem ti134:(XX fz).ti 134=some { kind:=TK.func,size:=1,bytes:=8,zero:=some [A.d D.nfunc],zval:=A.d D.nfunc }:=by kernel_rfl
@[go_sem] theorem ti135:(XX fz).ti 135=some { kind:=TK.slc 82,size:=1,bytes:=24,zero:=some [A.d (D.slc true [])],zval:=A.d (D.slc true []) }:=by kernel_rfl
@[go_sem] theorem ti136:(XX fz).ti 136=some { kind:=TK.slc 135,size:=1,bytes:=24,zero:=some [A.d (D.slc true [])],zval:=A.d (D.slc true []) }:=by kernel_rfl
@[go_sem] theorem ti137:(XX fz).ti 137=some { kind:=TK.struct [(0,3,61),(3,1,25),(4,1,3),(5,1,135),(6,1,136)],size:=7,bytes:=152,zero:=some [A.d (D.slc true []),A.d (D.slc true []),A.d (D.slc true []),A.d (D.slc true []),A.d (D.int IntKind.i64 0),A.d (D.slc true []),A.d (D.slc true [])],zval:=A.agg [A.d (D.slc true []),A.d (D.slc true []),A.d (D.slc true []),A.d (D.slc true []),A.d (D.int IntKind.i64 0),A.d (D.slc true []),A.d (D.slc true [])] }:=by kernel_rfl
@[go_sem] theorem ti138:(XX fz).ti 138=some { kind:=TK.struct [(0,3,61),(3,1,25),(4,1,3),(5,1,135),(6,1,136)],size:=7,bytes:=152,zero:=some [A.d (D.slc true []),A.d (D.slc true []),A.d (D.slc true []),A.d (D.slc true []),A.d (D.int IntKind.i64 0),A.d (D.slc true []),A.d (D.slc true [])],zval:=A.agg [A.d (D.slc true []),A.d (D.slc true []),A.d (D.slc true []),A.d (D.slc true []),A.d (D.int IntKind.i64 0),A.d (D.slc true []),A.d (D.slc true [])] }:=by kernel_rfl
@[go_sem] theorem ti139:(XX fz).ti 139=some { kind:=TK.func,size:=1,bytes:=8,zero:=some [A.d D.nfunc],zval:=A.d D.nfunc }:=by kernel_rfl
@[go_sem] theorem ti140:(XX fz).ti 140=some { kind:=TK.map 3 25,size:=1,bytes:=8,zero:=some [A.d D.nmap],zval:=A.d D.nmap }:=by kernel_rfl
@[go_sem] theorem ti141:(XX fz).ti 141=some { kind:=TK.func,size:=1,bytes:=8,zero:=some [A.d D.nfunc],zval:=A.d D.nfunc }:=by kernel_rfl
@[go_sem] theorem ti142:(XX fz).ti 142=some { kind:=TK.func,size:=1,bytes:=8,zero:=some [A.d D.nfunc],zval:=A.d D.nfunc }:=by kernel_rfl
@[go_sem] theorem ti143:(XX fz).ti 143=some { kind:=TK.func,size:=1,bytes:=8,zero:=some [A.d D.nfunc],zval:=A.d D.nfunc }:=by kernel_rfl
@[go_sem] theorem ti144:(XX fz).ti 144=some { kind:=TK.func,size:=1,bytes:=8,zero:=some [A.d D.nfunc],zval:=A.d D.nfunc }:=by kernel_rfl
@[go_sem] theorem ti145:(XX fz).ti 145=some { kind:=TK.func,size:=1,bytes:=8,zero:=some [A.d D.nfunc],zval:=A.d D.nfunc }:=by kernel_rfl
@[go_sem] theorem ti146:(XX fz).ti 146=some { kind:=TK.func,size:=1,bytes:=8,zero:=some [A.d D.nfunc],zval:=A.d D.nfunc }:=by kernel_rfl
@[go_sem] theorem ti147:(XX fz).ti 147=some { kind:=TK.ptr 150,size:=1,bytes:=8,zero:=some [A.d D.nptr],zval:=A.d D.nptr }:=by kernel_rfl
@[go_sem] theorem ti148:(XX fz).ti 148=some { kind:=TK.map 184 25,size:=1,bytes:=8,zero:=some [A.d D.nmap],zval:=A.d D.nmap }:=by kernel_rfl
@[go_sem] theorem ti149:(XX fz).ti 149=some { kind:=TK.struct [(0,1,55),(1,1,25),(2,1,3),(3,1,148)],size:=4,bytes:=48,zero:=some [A.d D.nptr,A.d (D.slc true []),A.d (D.int IntKind.i64 0),A.d D.nmap],zval:=A.agg [A.d D.nptr,A.d (D.slc true []),A.d (D.int IntKind.i64 0),A.d D.nmap] }:=by kernel_rfl
@[go_sem] theorem ti150:(XX fz).ti 150=some { kind:=TK.struct [(0,1,55),(1,1,25),(2,1,3),(3,1,148)],size:=4,bytes:=48,zero:=some [A.d D.nptr,A.d (D.slc true []),A.d (D.int IntKind.i64 0),A.d D.nmap],zval:=A.agg [A.d D.nptr,A.d (D.slc true []),A.d (D.int IntKind.i64 0),A.d D.nmap] }:=by kernel_rfl
@[go_sem] theorem ti151:(XX fz).ti 151=some { kind:=TK.func,size:=1,bytes:=8,zero:=some [A.d D.nfunc],zval:=A.d D.nfunc }:=by kernel_rfl
@[go_sem] theorem ti152:(XX fz).ti 152=some { kind:=TK.func,size:=1,bytes:=8,zero:=some [A.d D.nfunc],zval:=A.d D.nfunc }:=by kernel_rfl
@[go_sem] theorem ti153:(XX fz).ti 153=some { kind:=TK.func,size:=1,bytes:=8,zero:=some [A.d D.nfunc],zval:=A.d D.nfunc }:=by kernel_rfl
@[go_sem] theorem ti154:(XX fz).ti 154=some { kind:=TK.func,size:=1,bytes:=8,zero:=some [A.d D.nfunc],zval:=A.d D.nfunc }:=by kernel_rfl
@[go_sem] theorem ti155:(XX fz).ti 155=some { kind:=TK.func,size:=1,bytes:=8,zero:=some [A.d D.nfunc],zval:=A.d D.nfunc }:=by kernel_rfl
@[go_sem] theorem ti156:(XX fz).ti 156=some { kind:=TK.func,size:=1,bytes:=8,zero:=some [A.d D.nfunc],zval:=A.d D.nfunc }:=by kernel_rfl
@[go_sem] theorem ti157:(XX fz).ti 157=some { kind:=TK.func,size:=1,bytes:=8,zero:=some [A.d D.nfunc],zval:=A.d D.nfunc }:=by kernel_rfl
@[go_sem] theorem ti158:(XX fz).ti 158=some { kind:=TK.ptr 161,size:=1,bytes:=8,zero:=some [A.d D.nptr],zval:=A.d D.nptr }:=by kernel_rfl
@[go_sem] theorem ti159:(XX fz).ti 159=some { kind:=TK.map 164 25,size:=1,bytes:=8,zero:=some [A.d D.nmap],zval:=A.d D.nmap }:=by kernel_rfl
@[go_sem] theorem ti160:(XX fz).ti 160=some { kind:=TK.struct [(0,1,30),(1,1,25),(2,1,4),(3,1,159)],size:=4,bytes:=48,zero:=some [A.d D.nptr,A.d (D.slc true []),A.d (D.bool false),A.d D.nmap],zval:=A.agg [A.d D.nptr,A.d (D.slc true []),A.d (D.bool false),A.d D.nmap] }:=by kernel_rfl
@[go_sem] theorem ti161:(XX fz).ti 161=some { kind:=TK.struct [(0,1,30),(1,1,25),(2,1,4),(3,1,159)],size:=4,bytes:=48,zero:=some [A.d D.nptr,A.d (D.slc true []),A.d (D.bool false),A.d D.nmap],zval:=A.agg [A.d D.nptr,A.d (D.slc true []),A.d (D.bool false),A.d D.nmap] }:=by kernel_rfl
@[go_sem] theorem ti162:(XX fz).ti 162=some { kind:=TK.slc 164,size:=1,bytes:=24,zero:=some [A.d (D.slc true [])],zval:=A.d (D.slc true []) }:=by kernel_rfl
@[go_sem] theorem ti163:(XX fz).ti 163=some { kind:=TK.struct [(0,1,3),(1,1,3)],size:=2,bytes:=16,zero:=some [A.d (D.int IntKind.i64 0),A.d (D.int IntKind.i64 0)],zval:=A.agg [A.d (D.int IntKind.i64 0),A.d (D.int IntKind.i64 0)] }:=by kernel_rfl
@[go_sem] theorem ti164:(XX fz).ti 164=some { kind:=TK.struct [(0,1,3),(1,1,3)],size:=2,bytes:=16,zero:=some [A.d (D.int IntKind.i64 0),A.d (D.int IntKind.i64 0)],zval:=A.agg [A.d (D.int IntKind.i64 0),A.d (D.int IntKind.i64 0)] }:=by kernel_rfl
@[go_sem] theorem ti165:(XX fz).ti 165=some { kind:=TK.func,size:=1,bytes:=8,zero:=some [A.d D.nfunc],zval:=A.d D.nfunc }:=by kernel_rfl
@[go_sem] theorem ti166:(XX fz).ti 166=some { kind:=TK.func,size:=1,bytes:=8,zero:=some [A.d D.nfunc],zval:=A.d D.nfunc }:=by kernel_rfl
@[go_sem] theorem ti167:(XX fz).ti 167=some { kind:=TK.func,size:=1,bytes:=8,zero:=some [A.d D.nfunc],zval:=A.d D.nfunc }:=by kernel_rfl
@[go_sem] theorem ti168:(XX fz).ti 168=some { kind:=TK.func,size:=1,bytes:=8,zero:=some [A.d D.nfunc],zval:=A.d D.nfunc }:=by kernel_rfl
@[go_sem] theorem ti169:(XX fz).ti 169=some { kind:=TK.func,size:=1,bytes:=8,zero:=some [A.d D.nfunc],zval:=A.d D.nfunc }:=by kernel_rfl
@[go_sem] theorem ti170:(XX fz).ti 170=some { kind:=TK.func,size:=1,bytes:=8,zero:=some [A.d D.nfunc],zval:=A.d D.nfunc }:=by kernel_rfl
@[go_sem] theorem ti171:(XX fz).ti 171=some { kind:=TK.func,size:=1,bytes:=8,zero:=some [A.d D.nfunc],zval:=A.d D.nfunc }:=by kernel_rfl
@[go_sem] theorem ti172:(XX fz).ti 172=some { kind:=TK.func,size:=1,bytes:=8,zero:=some [A.d D.nfunc],zval:=A.d D.nfunc }:=by kernel_rfl
@[go_sem] theorem ti173:(XX fz).ti 173=some { kind:=TK.map 176 3,size:=1,bytes:=8,zero:=some [A.d D.nmap],zval:=A.d D.nmap }:=by kernel_rfl
@[go_sem] theorem ti174:(XX fz).ti 174=some { kind:=TK.slc 176,size:=1,bytes:=24,zero:=some [A.d (D.slc true [])],zval:=A.d (D.slc true []) }:=by kernel_rfl
@[go_sem] theorem ti175:(XX fz).ti 175=some { kind:=TK.struct [(0,1,3),(1,1,3)],size:=2,bytes:=16,zero:=some [A.d (D.int IntKind.i64 0),A.d (D.int IntKind.i64 0)],zval:=A.agg [A.d (D.int IntKind.i64 0),A.d (D.int IntKind.i64 0)] }:=by kernel_rfl
@[go_sem] theorem ti176:(XX fz).ti 176=some { kind:=TK.struct [(0,1,3),(1,1,3)],size:=2,bytes:=16,zero:=some [A.d (D.int IntKind.i64 0),A.d (D.int IntKind.i64 0)],zval:=A.agg [A.d (D.int IntKind.i64 0),A.d (D.int IntKind.i64 0)] }:=by kernel_rfl
@[go_sem] theorem ti177:(XX fz).ti 177=some { kind:=TK.func,size:=1,bytes:=8,zero:=some [A.d D.nfunc],zval:=A.d D.nfunc }:=by kernel_rfl
@[go_sem] theorem ti178:(XX fz).ti 178=some { kind:=TK.func,size:=1,bytes:=8,zero:=some [A.d D.nfunc],zval:=A.d D.nfunc }:=by kernel_rfl
@[go_sem] theorem ti179:(XX fz).ti 179=some { kind:=TK.func,size:=1,bytes:=8,zero:=some [A.d D.nfunc],zval:=A.d D.nfunc }:=by kernel_rfl
@[go_sem] theorem ti180:(XX fz).ti 180=some { kind:=TK.map 164 3,size:=1,bytes:=8,zero:=some [A.d D.nmap],zval:=A.d D.nmap }:=by kernel_rfl
@[go_sem] theorem ti181:(XX fz).ti 181=some { kind:=TK.func,size:=1,bytes:=8,zero:=some [A.d D.nfunc],zval:=A.d D.nfunc }:=by kernel_rfl
@[go_sem] theorem ti182:(XX fz).ti 182=some { kind:=TK.func,size:=1,bytes:=8,zero:=some [A.d D.nfunc],zval:=A.d D.nfunc }:=by kernel_rfl
@[go_sem] theorem ti183:(XX fz).ti 183=some { kind:=TK.struct [(0,1,3),(1,1,3)],size:=2,bytes:=16,zero:=some [A.d (D.int IntKind.i64 0),A.d (D.int IntKind.i64 0)],zval:=A.agg [A.d (D.int IntKind.i64 0),A.d (D.int IntKind.i64 0)] }:=by kernel_rfl
@[go_sem] theorem ti184:(XX fz).ti 184=some { kind:=TK.struct [(0,1,3),(1,1,3)],size:=2,bytes:=16,zero:=some [A.d (D.int IntKind.i64 0),A.d (D.int IntKind.i64 0)],zval:=A.agg [A.d (D.int IntKind.i64 0),A.d (D.int IntKind.i64 0)] }:=by kernel_rfl
@[go_sem] theorem ti185:(XX fz).ti 185=some { kind:=TK.func,size:=1,bytes:=8,zero:=some [A.d D.nfunc],zval:=A.d D.nfunc }:=by kernel_rfl
@[go_sem] theorem ti186:(XX fz).ti 186=some { kind:=TK.struct [(0,1,17),(1,1,17),(2,1,17),(3,1,9)],size:=4,bytes:=40,zero:=some [A.d D.nptr,A.d D.nptr,A.d D.nptr,A.d (D.str { data:={ toList:=[] } })],zval:=A.agg [A.d D.nptr,A.d D.nptr,A.d D.nptr,A.d (D.str { data:={ toList:=[] } })] }:=by kernel_rfl
@[go_sem] theorem ti187:(XX fz).ti 187=some { kind:=TK.struct [(0,1,17),(1,1,17),(2,1,17),(3,1,9)],size:=4,bytes:=40,zero:=some [A.d D.nptr,A.d D.nptr,A.d D.nptr,A.d (D.str { data:={ toList:=[] } })],zval:=A.agg [A.d D.nptr,A.d D.nptr,A.d D.nptr,A.d (D.str { data:={ toList:=[] } })] }:=by kernel_rfl
@[go_sem] theorem ti188:(XX fz).ti 188=some { kind:=TK.arr 0 1 16,size:=0,bytes:=0,zero:=some [],zval:=A.agg [] }:=by kernel_rfl
@[go_sem] theorem ti189:(XX fz).ti 189=none:=by kernel_rfl
@[go_sem] theorem ti190:(XX fz).ti 190=none:=by kernel_rfl
@[go_sem] theorem ti191:(XX fz).ti 191=some { kind:=TK.int IntKind.u32,size:=1,bytes:=4,zero:=some [A.d (D.int IntKind.u32 0)],zval:=A.d (D.int IntKind.u32 0) }:=by kernel_rfl
@[go_sem] theorem ti192:(XX fz).ti 192=some { kind:=TK.int IntKind.u8,size:=1,bytes:=1,zero:=some [A.d (D.int IntKind.u8 0)],zval:=A.d (D.int IntKind.u8 0) }:=by kernel_rfl
@[go_sem] theorem ti193:(XX fz).ti 193=some { kind:=TK.int IntKind.u8,size:=1,bytes:=1,zero:=some [A.d (D.int IntKind.u8 0)],zval:=A.d (D.int IntKind.u8 0) }:=by kernel_rfl
@[go_sem] theorem ti194:(XX fz).ti 194=some { kind:=TK.func,size:=1,bytes:=8,zero:=some [A.d D.nfunc],zval:=A.d D.nfunc }:=by kernel_rfl
@[go_sem] theorem ti195:(XX fz).ti 195=some { kind:=TK.ptr 5,size:=1,bytes:=8,zero:=some [A.d D.nptr],zval:=A.d D.nptr }:=by kernel_rfl
@[go_sem] theorem ti196:(XX fz).ti 196=some { kind:=TK.int IntKind.i32,size:=1,bytes:=4,zero:=some [A.d (D.int IntKind.i32 0)],zval:=A.d (D.int IntKind.i32 0) }:=by kernel_rfl
@[go_sem] theorem ti197:(XX fz).ti 197=some { kind:=TK.int IntKind.i32,size:=1,bytes:=4,zero:=some [A.d (D.int IntKind.i32 0)],zval:=A.d (D.int IntKind.i32 0) }:=by kernel_rfl
@[go_sem] theorem ti198:(XX fz).ti 198=some { kind:=TK.struct [(0,1,12),(1,1,12),(2,1,191),(3,1,192),(4,1,5),(5,1,5),(6,1,193),(7,1,194),(8,1,195),(9,1,196),(10,1,197)],size:=11,bytes:=48,zero:=some [A.d (D.int IntKind.u64 0),A.d (D.int IntKind.u64 0),A.d (D.int IntKind.u32 0),A.d (D.int IntKind.u8 0),A.d (D.int IntKind.u8 0),A.d (D.int IntKind.u8 0),A.d (D.int IntKind.u8 0),A.d D.nfunc,A.d D.nptr,A.d (D.int IntKind.i32 0),A.d (D.int IntKind.i32 0)],zval:=A.agg [A.d (D.int IntKind.u64 0),A.d (D.int IntKind.u64 0),A.d (D.int IntKind.u32 0),A.d (D.int IntKind.u8 0),A.d (D.int IntKind.u8 0),A.d (D.int IntKind.u8 0),A.d (D.int IntKind.u8 0),A.d D.nfunc,A.d D.nptr,A.d (D.int IntKind.i32 0),A.d (D.int IntKind.i32 0)] }:=by kernel_rfl
@[go_sem] theorem ti199:(XX fz).ti 199=some { kind:=TK.struct [(0,1,12),(1,1,12),(2,1,191),(3,1,192),(4,1,5),(5,1,5),(6,1,193),(7,1,194),(8,1,195),(9,1,196),(10,1,197)],size:=11,bytes:=48,zero:=some [A.d (D.int IntKind.u64 0),A.d (D.int IntKind.u64 0),A.d (D.int IntKind.u32 0),A.d (D.int IntKind.u8 0),A.d (D.int IntKind.u8 0),A.d (D.int IntKind.u8 0),A.d (D.int IntKind.u8 0),A.d D.nfunc,A.d D.nptr,A.d (D.int IntKind.i32 0),A.d (D.int IntKind.i32 0)],zval:=A.agg [A.d (D.int IntKind.u64 0),A.d (D.int IntKind.u64 0),A.d (D.int IntKind.u32 0),A.d (D.int IntKind.u8 0),A.d (D.int IntKind.u8 0),A.d (D.int IntKind.u8 0),A.d (D.int IntKind.u8 0),A.d D.nfunc,A.d D.nptr,A.d (D.int IntKind.i32 0),A.d (D.int IntKind.i32 0)] }:=by kernel_rfl
theorem fn6:(XX fz).fn 6=some ⟨197,[ResultVar.tmp 6],(Try.f6.body.getD .skip)⟩:=by kernel_rfl
theorem fn7:(XX fz).fn 7=some ⟨18,[ResultVar.tmp 2],(Try.f7.body.getD .skip)⟩:=by kernel_rfl
theorem fn8:(XX fz).fn 8=some ⟨62,[ResultVar.tmp 0],(Try.f8.body.getD .skip)⟩:=by kernel_rfl
theorem fn11:(XX fz).fn 11=some ⟨70,[ResultVar.tmp 2,ResultVar.tmp 3],(Try.f11.body.getD .skip)⟩:=by kernel_rfl
theorem fn14:(XX fz).fn 14=some ⟨31,[ResultVar.tmp 6,ResultVar.tmp 7],(Try.f14.body.getD .skip)⟩:=by kernel_rfl
theorem fn16:(XX fz).fn 16=some ⟨52,[ResultVar.tmp 6,ResultVar.tmp 7,ResultVar.tmp 8,ResultVar.tmp 9],(Try.f16.body.getD .skip)⟩:=by kernel_rfl
theorem fn18:(XX fz).fn 18=some ⟨26,[ResultVar.tmp 4],(Try.f18.body.getD .skip)⟩:=by kernel_rfl
theorem fn19:(XX fz).fn 19=some ⟨88,[ResultVar.tmp 2,ResultVar.tmp 3],(Try.f19.body.getD .skip)⟩:=by kernel_rfl
theorem fn20:(XX fz).fn 20=some ⟨16,[ResultVar.tmp 4],(Try.f20.body.getD .skip)⟩:=by kernel_rfl
theorem fn22:(XX fz).fn 22=some ⟨18,[ResultVar.tmp 4],(Try.f22.body.getD .skip)⟩:=by kernel_rfl
theorem fn23:(XX fz).fn 23=some ⟨86,[ResultVar.tmp 2,ResultVar.tmp 3],(Try.f23.body.getD .skip)⟩:=by kernel_rfl
theorem fn24:(XX fz).fn 24=some ⟨95,[ResultVar.tmp 2],(Try.f24.body.getD .skip)⟩:=by kernel_rfl
theorem fn25:(XX fz).fn 25=some ⟨155,[ResultVar.cell 4 61,ResultVar.cell 5 63,ResultVar.tmp 6],(Try.f25.body.getD .skip)⟩:=by kernel_rfl
theorem fn26:(XX fz).fn 26=some ⟨93,[ResultVar.tmp 6,ResultVar.tmp 7],(Try.f26.body.getD .skip)⟩:=by kernel_rfl
theorem fn27:(XX fz).fn 27=some ⟨22,[ResultVar.tmp 6,ResultVar.tmp 7],(Try.f27.body.getD .skip)⟩:=by kernel_rfl
theorem fn28:(XX fz).fn 28=some ⟨31,[ResultVar.tmp 6,ResultVar.tmp 7,ResultVar.tmp 8],(Try.f28.body.getD .skip)⟩:=by kernel_rfl
theorem fn29:(XX fz).fn 29=some ⟨23,[ResultVar.tmp 4],(Try.f29.body.getD .skip)⟩:=by kernel_rfl
theorem fn30:(XX fz).fn 30=some ⟨43,[ResultVar.tmp 0,ResultVar.tmp 1,ResultVar.tmp 2],(Try.f30.body.getD .skip)⟩:=by kernel_rfl
theorem fn31:(XX fz).fn 31=some ⟨25,[ResultVar.tmp 8],(Try.f31.body.getD .skip)⟩:=by kernel_rfl
theorem fn32:(XX fz).fn 32=some ⟨39,[ResultVar.tmp 10],(Try.f32.body.getD .skip)⟩:=by kernel_rfl
theorem fn34:(XX fz).fn 34=some ⟨39,[ResultVar.cell 2 61,ResultVar.tmp 3],(Try.f34.body.getD .skip)⟩:=by kernel_rfl
theorem fn35:(XX fz).fn 35=some ⟨20,[ResultVar.tmp 4,ResultVar.tmp 5],(Try.f35.body.getD .skip)⟩:=by kernel_rfl
theorem fn36:(XX fz).fn 36=some ⟨75,[],(Try.f36.body.getD .skip)⟩:=by kernel_rfl
theorem fn39:(XX fz).fn 39=some ⟨12,[ResultVar.tmp 2],(Try.f39.body.getD .skip)⟩:=by kernel_rfl
theorem fn40:(XX fz).fn 40=some ⟨76,[ResultVar.tmp 6],(Try.f40.body.getD .skip)⟩:=by kernel_rfl
theorem fn43:(XX fz).fn 43=some ⟨30,[ResultVar.tmp 4],(Try.f43.body.getD .skip)⟩:=by kernel_rfl
theorem fn44:(XX fz).fn 44=some ⟨138,[],(Try.f44.body.getD .skip)⟩:=by kernel_rfl
theorem fn45:(XX fz).fn 45=some ⟨80,[ResultVar.tmp 4,ResultVar.tmp 5],(Try.f45.body.getD .skip)⟩:=by kernel_rfl
theorem fn46:(XX fz).fn 46=some ⟨12,[ResultVar.tmp 2],(Try.f46.body.getD .skip)⟩:=by kernel_rfl
theorem fn47:(XX fz).fn 47=some ⟨33,[ResultVar.tmp 6],(Try.f47.body.getD .skip)⟩:=by kernel_rfl
theorem fn48:(XX fz).fn 48=some ⟨56,[ResultVar.tmp 4],(Try.f48.body.getD .skip)⟩:=by kernel_rfl
theorem fn49:(XX fz).fn 49=some ⟨39,[ResultVar.tmp 4],(Try.f49.body.getD .skip)⟩:=by kernel_rfl
theorem fn50:(XX fz).fn 50=some ⟨7,[ResultVar.tmp 3],(Try.f50.body.getD .skip)⟩:=by kernel_rfl
theorem fn51:(XX fz).fn 51=some ⟨33,[ResultVar.tmp 6],(Try.f51.body.getD .skip)⟩:=by kernel_rfl
theorem fn52:(XX fz).fn 52=some ⟨8,[ResultVar.tmp 3],(Try.f52.body.getD .skip)⟩:=by kernel_rfl
theorem fn53:(XX fz).fn 53=some ⟨25,[ResultVar.tmp 4],(Try.f53.body.getD .skip)⟩:=by kernel_rfl
theorem fn54:(XX fz).fn 54=some ⟨9,[ResultVar.tmp 4],(Try.f54.body.getD .skip)⟩:=by kernel_rfl
theorem fn55:(XX fz).fn 55=some ⟨9,[ResultVar.tmp 4],(Try.f55.body.getD .skip)⟩:=by kernel_rfl
theorem fn56:(XX fz).fn 56=some ⟨9,[ResultVar.tmp 4],(Try.f56.body.getD .skip)⟩:=by kernel_rfl
theorem fn57:(XX fz).fn 57=some ⟨8,[ResultVar.tmp 3],(Try.f57.body.getD .skip)⟩:=by kernel_rfl
theorem fn58:(XX fz).fn 58=some ⟨52,[],(Try.f58.body.getD .skip)⟩:=by kernel_rfl
theorem fn59:(XX fz).fn 59=some ⟨63,[ResultVar.tmp 4],(Try.f59.body.getD .skip)⟩:=by kernel_rfl
theorem fn60:(XX fz).fn 60=some ⟨49,[ResultVar.tmp 8],(Try.f60.body.getD .skip)⟩:=by kernel_rfl
theorem fn61:(XX fz).fn 61=some ⟨36,[ResultVar.tmp 2],(Try.f61.body.getD .skip)⟩:=by kernel_rfl
theorem fn62:(XX fz).fn 62=some ⟨25,[ResultVar.tmp 2],(Try.f62.body.getD .skip)⟩:=by kernel_rfl
theorem fn63:(XX fz).fn 63=some ⟨19,[ResultVar.tmp 4],(Try.f63.body.getD .skip)⟩:=by kernel_rfl
theorem fn64:(XX fz).fn 64=some ⟨179,[ResultVar.cell 0 24],(Try.f64.body.getD .skip)⟩:=by kernel_rfl
theorem fn65:(XX fz).fn 65=some ⟨8,[ResultVar.tmp 2],(Try.f65.body.getD .skip)⟩:=by kernel_rfl
theorem fn66:(XX fz).fn 66=some ⟨8,[ResultVar.tmp 2],(Try.f66.body.getD .skip)⟩:=by kernel_rfl
theorem fn67:(XX fz).fn 67=some ⟨20,[ResultVar.tmp 4],(Try.f67.body.getD .skip)⟩:=by kernel_rfl
theorem fn71:(XX fz).fn 71=some ⟨68,[ResultVar.tmp 6],(Try.f71.body.getD .skip)⟩:=by kernel_rfl
theorem fn75:(XX fz).fn 75=some ⟨29,[],(Try.f75.body.getD .skip)⟩:=by kernel_rfl
theorem fn76:(XX fz).fn 76=some ⟨27,[],(Try.f76.body.getD .skip)⟩:=by kernel_rfl
theorem fn77:(XX fz).fn 77=some ⟨96,[ResultVar.tmp 4,ResultVar.tmp 5],(Try.f77.body.getD .skip)⟩:=by kernel_rfl
theorem fn78:(XX fz).fn 78=some ⟨19,[ResultVar.tmp 4],(Try.f78.body.getD .skip)⟩:=by kernel_rfl
theorem fn79:(XX fz).fn 79=some ⟨8,[ResultVar.tmp 3],(Try.f79.body.getD .skip)⟩:=by kernel_rfl
theorem fn80:(XX fz).fn 80=some ⟨8,[ResultVar.tmp 3],(Try.f80.body.getD .skip)⟩:=by kernel_rfl
theorem fn81:(XX fz).fn 81=some ⟨9,[ResultVar.tmp 4],(Try.f81.body.getD .skip)⟩:=by kernel_rfl
theorem fn82:(XX fz).fn 82=some ⟨8,[ResultVar.tmp 3],(Try.f82.body.getD .skip)⟩:=by kernel_rfl
theorem fn83:(XX fz).fn 83=some ⟨19,[ResultVar.tmp 4],(Try.f83.body.getD .skip)⟩:=by kernel_rfl
theorem fn84:(XX fz).fn 84=some ⟨19,[ResultVar.tmp 4],(Try.f84.body.getD .skip)⟩:=by kernel_rfl
theorem fn85:(XX fz).fn 85=some ⟨19,[ResultVar.tmp 4],(Try.f85.body.getD .skip)⟩:=by kernel_rfl
theorem fn86:(XX fz).fn 86=some ⟨15,[ResultVar.tmp 3],(Try.f86.body.getD .skip)⟩:=by kernel_rfl
theorem fn87:(XX fz).fn 87=some ⟨13,[ResultVar.tmp 2],(Try.f87.body.getD .skip)⟩:=by kernel_rfl
theorem fn88:(XX fz).fn 88=some ⟨9,[ResultVar.tmp 4],(Try.f88.body.getD .skip)⟩:=by kernel_rfl
theorem fn89:(XX fz).fn 89=some ⟨9,[ResultVar.tmp 4],(Try.f89.body.getD .skip)⟩:=by kernel_rfl
theorem fn90:(XX fz).fn 90=some ⟨159,[ResultVar.tmp 6],(Try.f90.body.getD .skip)⟩:=by kernel_rfl
theorem fn91:(XX fz).fn 91=some ⟨27,[ResultVar.tmp 4],(Try.f91.body.getD .skip)⟩:=by kernel_rfl
theorem fn106:(XX fz).fn 106=some ⟨47,[ResultVar.tmp 6],(Try.f106.body.getD .skip)⟩:=by kernel_rfl
theorem fn107:(XX fz).fn 107=some ⟨164,[],(Try.f107.body.getD .skip)⟩:=by kernel_rfl
theorem fn108:(XX fz).fn 108=some ⟨29,[ResultVar.tmp 5],(Try.f108.body.getD .skip)⟩:=by kernel_rfl
theorem fn111:(XX fz).fn 111=some ⟨36,[ResultVar.tmp 4],(Try.f111.body.getD .skip)⟩:=by kernel_rfl
theorem fn112:(XX fz).fn 112=some ⟨19,[ResultVar.tmp 4],(Try.f112.body.getD .skip)⟩:=by kernel_rfl
theorem fn113:(XX fz).fn 113=some ⟨19,[ResultVar.tmp 4],(Try.f113.body.getD .skip)⟩:=by kernel_rfl
theorem fn114:(XX fz).fn 114=some ⟨30,[],(Try.f114.body.getD .skip)⟩:=by kernel_rfl
theorem fn115:(XX fz).fn 115=some ⟨46,[ResultVar.tmp 6],(Try.f115.body.getD .skip)⟩:=by kernel_rfl
theorem fn119:(XX fz).fn 119=some ⟨10,[ResultVar.tmp 5],(Try.f119.body.getD .skip)⟩:=by kernel_rfl
theorem fn120:(XX fz).fn 120=some ⟨23,[],(Try.f120.body.getD .skip)⟩:=by kernel_rfl
theorem fn122:(XX fz).fn 122=some ⟨20,[ResultVar.tmp 4],(Try.f122.body.getD .skip)⟩:=by kernel_rfl
theorem fn123:(XX fz).fn 123=some ⟨6,[ResultVar.tmp 2],(Try.f123.body.getD .skip)⟩:=by kernel_rfl
end Go.Am
