/- Part of a proof: GdEnv1, GdO1, GdO2, GdO3, GdO4, GdO5, GdO6, GdO7, GdO8, GdO9, GdO10, GdO11, GdO12, GdO13, GdO14, GdP1, GdO15, GdW1 -/
import Derived.Test.YtmacdhglhafldaaDoorK3
import Derived.Test.YtmacdhglhafldaaDoorK6
import Derived.Test.YtmacdhglhafldaaDoorK8
import Derived.Test.YtmacdhglhafldaaDoorK9
import Derived.Test.YtmacdhglhafldaaDoorK10
import Derived.Test.YtmacdhglhafldaaDoorK11
import Derived.Test.YtmacdhglhafldaaDoorK12
import Derived.Test.YtmacdhglhafldaaDoorProg
import Derived.KernelRfl

/- The types that the walks name, as a table. -/
namespace Go.Gp
open Go.Proofs
namespace Tryd
def t1 : TI := ⟨.fn, 1, .nilFunc, 8⟩
theorem ok1 : TI.ok Tryd.prog 1 t1 := ⟨⟨_, Tryd.underlying1, _, _, _, rfl⟩, by kernel_rfl⟩
def t2 : TI := ⟨(.int .i64), 1, (.int .i64 0), 8⟩
theorem ok2 : TI.ok Tryd.prog 2 t2 := ⟨⟨_, Tryd.underlying2, rfl⟩, by kernel_rfl⟩
def t3 : TI := ⟨(.int .i64), 1, (.int .i64 0), 8⟩
theorem ok3 : TI.ok Tryd.prog 3 t3 := ⟨⟨_, Tryd.underlying3, rfl⟩, by kernel_rfl⟩
def t4 : TI := ⟨.basic, 1, (.bool false), 1⟩
theorem ok4 : TI.ok Tryd.prog 4 t4 := ⟨⟨_, Tryd.underlying4, rfl⟩, by kernel_rfl⟩
def t5 : TI := ⟨(.int .u8), 1, (.int .u8 0), 1⟩
theorem ok5 : TI.ok Tryd.prog 5 t5 := ⟨⟨_, Tryd.underlying5, rfl⟩, by kernel_rfl⟩
def t9 : TI := ⟨.str, 1, (.string ⟨#[]⟩), 16⟩
theorem ok9 : TI.ok Tryd.prog 9 t9 := ⟨⟨_, Tryd.underlying9, rfl⟩, by kernel_rfl⟩
def t12 : TI := ⟨(.int .u64), 1, (.int .u64 0), 8⟩
theorem ok12 : TI.ok Tryd.prog 12 t12 := ⟨⟨_, Tryd.underlying12, rfl⟩, by kernel_rfl⟩
def t13 : TI := ⟨(.struct [(0, 9), (1, 12)]), 2, (.agg #[(.string ⟨#[]⟩), (.int .u64 0)]), 24⟩
theorem ok13 : TI.ok Tryd.prog 13 t13 := ⟨⟨_, Tryd.underlying13, _, rfl, rfl⟩, by kernel_rfl⟩
def t20 : TI := ⟨.iface, 1, .nilIface, 16⟩
theorem ok20 : TI.ok Tryd.prog 20 t20 := ⟨⟨_, Tryd.underlying20, _, rfl⟩, by kernel_rfl⟩
def t21 : TI := ⟨(.int .i32), 1, (.int .i32 0), 4⟩
theorem ok21 : TI.ok Tryd.prog 21 t21 := ⟨⟨_, Tryd.underlying21, rfl⟩, by kernel_rfl⟩
def t22 : TI := ⟨(.int .u64), 1, (.int .u64 0), 8⟩
theorem ok22 : TI.ok Tryd.prog 22 t22 := ⟨⟨_, Tryd.underlying22, rfl⟩, by kernel_rfl⟩
def t23 : TI := ⟨(.struct [(0, 2), (1, 2)]), 2, (.agg #[(.int .i64 0), (.int .i64 0)]), 16⟩
theorem ok23 : TI.ok Tryd.prog 23 t23 := ⟨⟨_, Tryd.underlying23, _, rfl, rfl⟩, by kernel_rfl⟩
def t24 : TI := ⟨(.struct [(0, 2), (1, 2)]), 2, (.agg #[(.int .i64 0), (.int .i64 0)]), 16⟩
theorem ok24 : TI.ok Tryd.prog 24 t24 := ⟨⟨_, Tryd.underlying24, _, rfl, rfl⟩, by kernel_rfl⟩
def t25 : TI := ⟨(.slice 63), 1, (.slice none 0 0), 24⟩
theorem ok25 : TI.ok Tryd.prog 25 t25 := ⟨⟨_, Tryd.underlying25, rfl⟩, by kernel_rfl⟩
def t26 : TI := ⟨(.struct [(0, 22), (1, 24), (3, 25)]), 4, (.agg #[(.int .u64 0), (.int .i64 0), (.int .i64 0), (.slice none 0 0)]), 48⟩
theorem ok26 : TI.ok Tryd.prog 26 t26 := ⟨⟨_, Tryd.underlying26, _, rfl, rfl⟩, by kernel_rfl⟩
def t27 : TI := ⟨(.struct [(0, 22), (1, 24), (3, 25)]), 4, (.agg #[(.int .u64 0), (.int .i64 0), (.int .i64 0), (.slice none 0 0)]), 48⟩
theorem ok27 : TI.ok Tryd.prog 27 t27 := ⟨⟨_, Tryd.underlying27, _, rfl, rfl⟩, by kernel_rfl⟩
def t28 : TI := ⟨(.slice 58), 1, (.slice none 0 0), 24⟩
theorem ok28 : TI.ok Tryd.prog 28 t28 := ⟨⟨_, Tryd.underlying28, rfl⟩, by kernel_rfl⟩
def t29 : TI := ⟨.fn, 1, .nilFunc, 8⟩
theorem ok29 : TI.ok Tryd.prog 29 t29 := ⟨⟨_, Tryd.underlying29, _, _, _, rfl⟩, by kernel_rfl⟩
def t30 : TI := ⟨.fn, 1, .nilFunc, 8⟩
theorem ok30 : TI.ok Tryd.prog 30 t30 := ⟨⟨_, Tryd.underlying30, _, _, _, rfl⟩, by kernel_rfl⟩
def t31 : TI := ⟨.fn, 1, .nilFunc, 8⟩
theorem ok31 : TI.ok Tryd.prog 31 t31 := ⟨⟨_, Tryd.underlying31, _, _, _, rfl⟩, by kernel_rfl⟩
def t32 : TI := ⟨.fn, 1, .nilFunc, 8⟩
theorem ok32 : TI.ok Tryd.prog 32 t32 := ⟨⟨_, Tryd.underlying32, _, _, _, rfl⟩, by kernel_rfl⟩
def t33 : TI := ⟨(.int .i64), 1, (.int .i64 0), 8⟩
theorem ok33 : TI.ok Tryd.prog 33 t33 := ⟨⟨_, Tryd.underlying33, rfl⟩, by kernel_rfl⟩
def t35 : TI := ⟨.fn, 1, .nilFunc, 8⟩
theorem ok35 : TI.ok Tryd.prog 35 t35 := ⟨⟨_, Tryd.underlying35, _, _, _, rfl⟩, by kernel_rfl⟩
def t37 : TI := ⟨.fn, 1, .nilFunc, 8⟩
theorem ok37 : TI.ok Tryd.prog 37 t37 := ⟨⟨_, Tryd.underlying37, _, _, _, rfl⟩, by kernel_rfl⟩
def t38 : TI := ⟨(.slice 9), 1, (.slice none 0 0), 24⟩
theorem ok38 : TI.ok Tryd.prog 38 t38 := ⟨⟨_, Tryd.underlying38, rfl⟩, by kernel_rfl⟩
def t39 : TI := ⟨(.struct [(0, 38), (1, 38), (2, 38)]), 3, (.agg #[(.slice none 0 0), (.slice none 0 0), (.slice none 0 0)]), 72⟩
theorem ok39 : TI.ok Tryd.prog 39 t39 := ⟨⟨_, Tryd.underlying39, _, rfl, rfl⟩, by kernel_rfl⟩
def t40 : TI := ⟨(.struct [(0, 38), (1, 38), (2, 38)]), 3, (.agg #[(.slice none 0 0), (.slice none 0 0), (.slice none 0 0)]), 72⟩
theorem ok40 : TI.ok Tryd.prog 40 t40 := ⟨⟨_, Tryd.underlying40, _, rfl, rfl⟩, by kernel_rfl⟩
def t42 : TI := ⟨.fn, 1, .nilFunc, 8⟩
theorem ok42 : TI.ok Tryd.prog 42 t42 := ⟨⟨_, Tryd.underlying42, _, _, _, rfl⟩, by kernel_rfl⟩
def t44 : TI := ⟨.fn, 1, .nilFunc, 8⟩
theorem ok44 : TI.ok Tryd.prog 44 t44 := ⟨⟨_, Tryd.underlying44, _, _, _, rfl⟩, by kernel_rfl⟩
def t45 : TI := ⟨.fn, 1, .nilFunc, 8⟩
theorem ok45 : TI.ok Tryd.prog 45 t45 := ⟨⟨_, Tryd.underlying45, _, _, _, rfl⟩, by kernel_rfl⟩
def t46 : TI := ⟨.fn, 1, .nilFunc, 8⟩
theorem ok46 : TI.ok Tryd.prog 46 t46 := ⟨⟨_, Tryd.underlying46, _, _, _, rfl⟩, by kernel_rfl⟩
def t47 : TI := ⟨.fn, 1, .nilFunc, 8⟩
theorem ok47 : TI.ok Tryd.prog 47 t47 := ⟨⟨_, Tryd.underlying47, _, _, _, rfl⟩, by kernel_rfl⟩
def t48 : TI := ⟨.fn, 1, .nilFunc, 8⟩
theorem ok48 : TI.ok Tryd.prog 48 t48 := ⟨⟨_, Tryd.underlying48, _, _, _, rfl⟩, by kernel_rfl⟩
def t49 : TI := ⟨(.slice 5), 1, (.slice none 0 0), 24⟩
theorem ok49 : TI.ok Tryd.prog 49 t49 := ⟨⟨_, Tryd.underlying49, rfl⟩, by kernel_rfl⟩
def t50 : TI := ⟨.fn, 1, .nilFunc, 8⟩
theorem ok50 : TI.ok Tryd.prog 50 t50 := ⟨⟨_, Tryd.underlying50, _, _, _, rfl⟩, by kernel_rfl⟩
def t52 : TI := ⟨.fn, 1, .nilFunc, 8⟩
theorem ok52 : TI.ok Tryd.prog 52 t52 := ⟨⟨_, Tryd.underlying52, _, _, _, rfl⟩, by kernel_rfl⟩
def t53 : TI := ⟨.fn, 1, .nilFunc, 8⟩
theorem ok53 : TI.ok Tryd.prog 53 t53 := ⟨⟨_, Tryd.underlying53, _, _, _, rfl⟩, by kernel_rfl⟩
def t54 : TI := ⟨.fn, 1, .nilFunc, 8⟩
theorem ok54 : TI.ok Tryd.prog 54 t54 := ⟨⟨_, Tryd.underlying54, _, _, _, rfl⟩, by kernel_rfl⟩
def t55 : TI := ⟨.fn, 1, .nilFunc, 8⟩
theorem ok55 : TI.ok Tryd.prog 55 t55 := ⟨⟨_, Tryd.underlying55, _, _, _, rfl⟩, by kernel_rfl⟩
def t56 : TI := ⟨.fn, 1, .nilFunc, 8⟩
theorem ok56 : TI.ok Tryd.prog 56 t56 := ⟨⟨_, Tryd.underlying56, _, _, _, rfl⟩, by kernel_rfl⟩
def t57 : TI := ⟨(.struct [(0, 9), (1, 49)]), 2, (.agg #[(.string ⟨#[]⟩), (.slice none 0 0)]), 40⟩
theorem ok57 : TI.ok Tryd.prog 57 t57 := ⟨⟨_, Tryd.underlying57, _, rfl, rfl⟩, by kernel_rfl⟩
def t58 : TI := ⟨(.struct [(0, 9), (1, 49)]), 2, (.agg #[(.string ⟨#[]⟩), (.slice none 0 0)]), 40⟩
theorem ok58 : TI.ok Tryd.prog 58 t58 := ⟨⟨_, Tryd.underlying58, _, rfl, rfl⟩, by kernel_rfl⟩
def t59 : TI := ⟨.fn, 1, .nilFunc, 8⟩
theorem ok59 : TI.ok Tryd.prog 59 t59 := ⟨⟨_, Tryd.underlying59, _, _, _, rfl⟩, by kernel_rfl⟩
def t60 : TI := ⟨(.array 32 5), 32, (.agg (Array.replicate 32 (.int .u8 0))), 32⟩
theorem ok60 : TI.ok Tryd.prog 60 t60 := ⟨⟨_, Tryd.underlying60, rfl⟩, by kernel_rfl⟩
def t61 : TI := ⟨(.array 32 5), 32, (.agg (Array.replicate 32 (.int .u8 0))), 32⟩
theorem ok61 : TI.ok Tryd.prog 61 t61 := ⟨⟨_, Tryd.underlying61, rfl⟩, by kernel_rfl⟩
def t62 : TI := ⟨(.struct [(0, 9), (1, 61)]), 33, (.agg #[(.string ⟨#[]⟩), (.int .u8 0), (.int .u8 0), (.int .u8 0), (.int .u8 0), (.int .u8 0), (.int .u8 0), (.int .u8 0), (.int .u8 0), (.int .u8 0), (.int .u8 0), (.int .u8 0), (.int .u8 0), (.int .u8 0), (.int .u8 0), (.int .u8 0), (.int .u8 0), (.int .u8 0), (.int .u8 0), (.int .u8 0), (.int .u8 0), (.int .u8 0), (.int .u8 0), (.int .u8 0), (.int .u8 0), (.int .u8 0), (.int .u8 0), (.int .u8 0), (.int .u8 0), (.int .u8 0), (.int .u8 0), (.int .u8 0), (.int .u8 0)]), 48⟩
theorem ok62 : TI.ok Tryd.prog 62 t62 := ⟨⟨_, Tryd.underlying62, _, rfl, rfl⟩, by kernel_rfl⟩
def t63 : TI := ⟨(.struct [(0, 9), (1, 61)]), 33, (.agg #[(.string ⟨#[]⟩), (.int .u8 0), (.int .u8 0), (.int .u8 0), (.int .u8 0), (.int .u8 0), (.int .u8 0), (.int .u8 0), (.int .u8 0), (.int .u8 0), (.int .u8 0), (.int .u8 0), (.int .u8 0), (.int .u8 0), (.int .u8 0), (.int .u8 0), (.int .u8 0), (.int .u8 0), (.int .u8 0), (.int .u8 0), (.int .u8 0), (.int .u8 0), (.int .u8 0), (.int .u8 0), (.int .u8 0), (.int .u8 0), (.int .u8 0), (.int .u8 0), (.int .u8 0), (.int .u8 0), (.int .u8 0), (.int .u8 0), (.int .u8 0)]), 48⟩
theorem ok63 : TI.ok Tryd.prog 63 t63 := ⟨⟨_, Tryd.underlying63, _, rfl, rfl⟩, by kernel_rfl⟩
def t64 : TI := ⟨.fn, 1, .nilFunc, 8⟩
theorem ok64 : TI.ok Tryd.prog 64 t64 := ⟨⟨_, Tryd.underlying64, _, _, _, rfl⟩, by kernel_rfl⟩
def t65 : TI := ⟨.fn, 1, .nilFunc, 8⟩
theorem ok65 : TI.ok Tryd.prog 65 t65 := ⟨⟨_, Tryd.underlying65, _, _, _, rfl⟩, by kernel_rfl⟩
def t67 : TI := ⟨.fn, 1, .nilFunc, 8⟩
theorem ok67 : TI.ok Tryd.prog 67 t67 := ⟨⟨_, Tryd.underlying67, _, _, _, rfl⟩, by kernel_rfl⟩
def t68 : TI := ⟨.fn, 1, .nilFunc, 8⟩
theorem ok68 : TI.ok Tryd.prog 68 t68 := ⟨⟨_, Tryd.underlying68, _, _, _, rfl⟩, by kernel_rfl⟩
def t69 : TI := ⟨(.slice 49), 1, (.slice none 0 0), 24⟩
theorem ok69 : TI.ok Tryd.prog 69 t69 := ⟨⟨_, Tryd.underlying69, rfl⟩, by kernel_rfl⟩
def t70 : TI := ⟨.fn, 1, .nilFunc, 8⟩
theorem ok70 : TI.ok Tryd.prog 70 t70 := ⟨⟨_, Tryd.underlying70, _, _, _, rfl⟩, by kernel_rfl⟩
def t71 : TI := ⟨.fn, 1, .nilFunc, 8⟩
theorem ok71 : TI.ok Tryd.prog 71 t71 := ⟨⟨_, Tryd.underlying71, _, _, _, rfl⟩, by kernel_rfl⟩
def t72 : TI := ⟨.fn, 1, .nilFunc, 8⟩
theorem ok72 : TI.ok Tryd.prog 72 t72 := ⟨⟨_, Tryd.underlying72, _, _, _, rfl⟩, by kernel_rfl⟩
def t73 : TI := ⟨(.map 9 49), 1, (.map none), 8⟩
theorem ok73 : TI.ok Tryd.prog 73 t73 := ⟨⟨_, Tryd.underlying73, rfl⟩, by kernel_rfl⟩
def t75 : TI := ⟨.fn, 1, .nilFunc, 8⟩
theorem ok75 : TI.ok Tryd.prog 75 t75 := ⟨⟨_, Tryd.underlying75, _, _, _, rfl⟩, by kernel_rfl⟩
def t76 : TI := ⟨.fn, 1, .nilFunc, 8⟩
theorem ok76 : TI.ok Tryd.prog 76 t76 := ⟨⟨_, Tryd.underlying76, _, _, _, rfl⟩, by kernel_rfl⟩
def t77 : TI := ⟨.fn, 1, .nilFunc, 8⟩
theorem ok77 : TI.ok Tryd.prog 77 t77 := ⟨⟨_, Tryd.underlying77, _, _, _, rfl⟩, by kernel_rfl⟩
def t78 : TI := ⟨.fn, 1, .nilFunc, 8⟩
theorem ok78 : TI.ok Tryd.prog 78 t78 := ⟨⟨_, Tryd.underlying78, _, _, _, rfl⟩, by kernel_rfl⟩
def t79 : TI := ⟨.fn, 1, .nilFunc, 8⟩
theorem ok79 : TI.ok Tryd.prog 79 t79 := ⟨⟨_, Tryd.underlying79, _, _, _, rfl⟩, by kernel_rfl⟩
def t80 : TI := ⟨.fn, 1, .nilFunc, 8⟩
theorem ok80 : TI.ok Tryd.prog 80 t80 := ⟨⟨_, Tryd.underlying80, _, _, _, rfl⟩, by kernel_rfl⟩
def t81 : TI := ⟨.fn, 1, .nilFunc, 8⟩
theorem ok81 : TI.ok Tryd.prog 81 t81 := ⟨⟨_, Tryd.underlying81, _, _, _, rfl⟩, by kernel_rfl⟩
def t82 : TI := ⟨.fn, 1, .nilFunc, 8⟩
theorem ok82 : TI.ok Tryd.prog 82 t82 := ⟨⟨_, Tryd.underlying82, _, _, _, rfl⟩, by kernel_rfl⟩
def t83 : TI := ⟨.fn, 1, .nilFunc, 8⟩
theorem ok83 : TI.ok Tryd.prog 83 t83 := ⟨⟨_, Tryd.underlying83, _, _, _, rfl⟩, by kernel_rfl⟩
def t84 : TI := ⟨.fn, 1, .nilFunc, 8⟩
theorem ok84 : TI.ok Tryd.prog 84 t84 := ⟨⟨_, Tryd.underlying84, _, _, _, rfl⟩, by kernel_rfl⟩
def t85 : TI := ⟨.fn, 1, .nilFunc, 8⟩
theorem ok85 : TI.ok Tryd.prog 85 t85 := ⟨⟨_, Tryd.underlying85, _, _, _, rfl⟩, by kernel_rfl⟩
def t86 : TI := ⟨.fn, 1, .nilFunc, 8⟩
theorem ok86 : TI.ok Tryd.prog 86 t86 := ⟨⟨_, Tryd.underlying86, _, _, _, rfl⟩, by kernel_rfl⟩
def t87 : TI := ⟨.fn, 1, .nilFunc, 8⟩
theorem ok87 : TI.ok Tryd.prog 87 t87 := ⟨⟨_, Tryd.underlying87, _, _, _, rfl⟩, by kernel_rfl⟩
def t88 : TI := ⟨.fn, 1, .nilFunc, 8⟩
theorem ok88 : TI.ok Tryd.prog 88 t88 := ⟨⟨_, Tryd.underlying88, _, _, _, rfl⟩, by kernel_rfl⟩
def t89 : TI := ⟨.fn, 1, .nilFunc, 8⟩
theorem ok89 : TI.ok Tryd.prog 89 t89 := ⟨⟨_, Tryd.underlying89, _, _, _, rfl⟩, by kernel_rfl⟩
def t90 : TI := ⟨(.slice 92), 1, (.slice none 0 0), 24⟩
theorem ok90 : TI.ok Tryd.prog 90 t90 := ⟨⟨_, Tryd.underlying90, rfl⟩, by kernel_rfl⟩
def t91 : TI := ⟨(.struct [(0, 5), (1, 49), (2, 90)]), 3, (.agg #[(.int .u8 0), (.slice none 0 0), (.slice none 0 0)]), 56⟩
theorem ok91 : TI.ok Tryd.prog 91 t91 := ⟨⟨_, Tryd.underlying91, _, rfl, rfl⟩, by kernel_rfl⟩
def t92 : TI := ⟨(.struct [(0, 5), (1, 49), (2, 90)]), 3, (.agg #[(.int .u8 0), (.slice none 0 0), (.slice none 0 0)]), 56⟩
theorem ok92 : TI.ok Tryd.prog 92 t92 := ⟨⟨_, Tryd.underlying92, _, rfl, rfl⟩, by kernel_rfl⟩
def t93 : TI := ⟨.fn, 1, .nilFunc, 8⟩
theorem ok93 : TI.ok Tryd.prog 93 t93 := ⟨⟨_, Tryd.underlying93, _, _, _, rfl⟩, by kernel_rfl⟩
def t94 : TI := ⟨.fn, 1, .nilFunc, 8⟩
theorem ok94 : TI.ok Tryd.prog 94 t94 := ⟨⟨_, Tryd.underlying94, _, _, _, rfl⟩, by kernel_rfl⟩
def t95 : TI := ⟨.fn, 1, .nilFunc, 8⟩
theorem ok95 : TI.ok Tryd.prog 95 t95 := ⟨⟨_, Tryd.underlying95, _, _, _, rfl⟩, by kernel_rfl⟩
def t96 : TI := ⟨.fn, 1, .nilFunc, 8⟩
theorem ok96 : TI.ok Tryd.prog 96 t96 := ⟨⟨_, Tryd.underlying96, _, _, _, rfl⟩, by kernel_rfl⟩
def t98 : TI := ⟨.fn, 1, .nilFunc, 8⟩
theorem ok98 : TI.ok Tryd.prog 98 t98 := ⟨⟨_, Tryd.underlying98, _, _, _, rfl⟩, by kernel_rfl⟩
def t99 : TI := ⟨.fn, 1, .nilFunc, 8⟩
theorem ok99 : TI.ok Tryd.prog 99 t99 := ⟨⟨_, Tryd.underlying99, _, _, _, rfl⟩, by kernel_rfl⟩
def t100 : TI := ⟨.fn, 1, .nilFunc, 8⟩
theorem ok100 : TI.ok Tryd.prog 100 t100 := ⟨⟨_, Tryd.underlying100, _, _, _, rfl⟩, by kernel_rfl⟩
def t102 : TI := ⟨.fn, 1, .nilFunc, 8⟩
theorem ok102 : TI.ok Tryd.prog 102 t102 := ⟨⟨_, Tryd.underlying102, _, _, _, rfl⟩, by kernel_rfl⟩
def t104 : TI := ⟨.fn, 1, .nilFunc, 8⟩
theorem ok104 : TI.ok Tryd.prog 104 t104 := ⟨⟨_, Tryd.underlying104, _, _, _, rfl⟩, by kernel_rfl⟩
def t105 : TI := ⟨.fn, 1, .nilFunc, 8⟩
theorem ok105 : TI.ok Tryd.prog 105 t105 := ⟨⟨_, Tryd.underlying105, _, _, _, rfl⟩, by kernel_rfl⟩
def t107 : TI := ⟨.fn, 1, .nilFunc, 8⟩
theorem ok107 : TI.ok Tryd.prog 107 t107 := ⟨⟨_, Tryd.underlying107, _, _, _, rfl⟩, by kernel_rfl⟩
def t108 : TI := ⟨.fn, 1, .nilFunc, 8⟩
theorem ok108 : TI.ok Tryd.prog 108 t108 := ⟨⟨_, Tryd.underlying108, _, _, _, rfl⟩, by kernel_rfl⟩
def t110 : TI := ⟨.fn, 1, .nilFunc, 8⟩
theorem ok110 : TI.ok Tryd.prog 110 t110 := ⟨⟨_, Tryd.underlying110, _, _, _, rfl⟩, by kernel_rfl⟩
def t111 : TI := ⟨.fn, 1, .nilFunc, 8⟩
theorem ok111 : TI.ok Tryd.prog 111 t111 := ⟨⟨_, Tryd.underlying111, _, _, _, rfl⟩, by kernel_rfl⟩
def t112 : TI := ⟨.fn, 1, .nilFunc, 8⟩
theorem ok112 : TI.ok Tryd.prog 112 t112 := ⟨⟨_, Tryd.underlying112, _, _, _, rfl⟩, by kernel_rfl⟩
def t113 : TI := ⟨.fn, 1, .nilFunc, 8⟩
theorem ok113 : TI.ok Tryd.prog 113 t113 := ⟨⟨_, Tryd.underlying113, _, _, _, rfl⟩, by kernel_rfl⟩
def t114 : TI := ⟨.fn, 1, .nilFunc, 8⟩
theorem ok114 : TI.ok Tryd.prog 114 t114 := ⟨⟨_, Tryd.underlying114, _, _, _, rfl⟩, by kernel_rfl⟩
def t115 : TI := ⟨.fn, 1, .nilFunc, 8⟩
theorem ok115 : TI.ok Tryd.prog 115 t115 := ⟨⟨_, Tryd.underlying115, _, _, _, rfl⟩, by kernel_rfl⟩
def t116 : TI := ⟨(.int .u32), 1, (.int .u32 0), 4⟩
theorem ok116 : TI.ok Tryd.prog 116 t116 := ⟨⟨_, Tryd.underlying116, rfl⟩, by kernel_rfl⟩
def t117 : TI := ⟨(.array 64 116), 64, (.agg (Array.replicate 64 (.int .u32 0))), 256⟩
theorem ok117 : TI.ok Tryd.prog 117 t117 := ⟨⟨_, Tryd.underlying117, rfl⟩, by kernel_rfl⟩
def t118 : TI := ⟨.fn, 1, .nilFunc, 8⟩
theorem ok118 : TI.ok Tryd.prog 118 t118 := ⟨⟨_, Tryd.underlying118, _, _, _, rfl⟩, by kernel_rfl⟩
def t119 : TI := ⟨(.array 8 116), 8, (.agg #[(.int .u32 0), (.int .u32 0), (.int .u32 0), (.int .u32 0), (.int .u32 0), (.int .u32 0), (.int .u32 0), (.int .u32 0)]), 32⟩
theorem ok119 : TI.ok Tryd.prog 119 t119 := ⟨⟨_, Tryd.underlying119, rfl⟩, by kernel_rfl⟩
def t120 : TI := ⟨.fn, 1, .nilFunc, 8⟩
theorem ok120 : TI.ok Tryd.prog 120 t120 := ⟨⟨_, Tryd.underlying120, _, _, _, rfl⟩, by kernel_rfl⟩
def t121 : TI := ⟨.fn, 1, .nilFunc, 8⟩
theorem ok121 : TI.ok Tryd.prog 121 t121 := ⟨⟨_, Tryd.underlying121, _, _, _, rfl⟩, by kernel_rfl⟩
def t122 : TI := ⟨(.int .u64), 1, (.int .u64 0), 8⟩
theorem ok122 : TI.ok Tryd.prog 122 t122 := ⟨⟨_, Tryd.underlying122, rfl⟩, by kernel_rfl⟩
def t124 : TI := ⟨.fn, 1, .nilFunc, 8⟩
theorem ok124 : TI.ok Tryd.prog 124 t124 := ⟨⟨_, Tryd.underlying124, _, _, _, rfl⟩, by kernel_rfl⟩
def t125 : TI := ⟨.fn, 1, .nilFunc, 8⟩
theorem ok125 : TI.ok Tryd.prog 125 t125 := ⟨⟨_, Tryd.underlying125, _, _, _, rfl⟩, by kernel_rfl⟩
def t126 : TI := ⟨.fn, 1, .nilFunc, 8⟩
theorem ok126 : TI.ok Tryd.prog 126 t126 := ⟨⟨_, Tryd.underlying126, _, _, _, rfl⟩, by kernel_rfl⟩
def t127 : TI := ⟨.fn, 1, .nilFunc, 8⟩
theorem ok127 : TI.ok Tryd.prog 127 t127 := ⟨⟨_, Tryd.underlying127, _, _, _, rfl⟩, by kernel_rfl⟩
def t128 : TI := ⟨(.struct []), 0, (.agg #[]), 0⟩
theorem ok128 : TI.ok Tryd.prog 128 t128 := ⟨⟨_, Tryd.underlying128, _, rfl, rfl⟩, by kernel_rfl⟩
def t129 : TI := ⟨(.struct []), 0, (.agg #[]), 0⟩
theorem ok129 : TI.ok Tryd.prog 129 t129 := ⟨⟨_, Tryd.underlying129, _, rfl, rfl⟩, by kernel_rfl⟩
def t131 : TI := ⟨(.ptr 133), 1, (.pointer none), 8⟩
theorem ok131 : TI.ok Tryd.prog 131 t131 := ⟨⟨_, Tryd.underlying131, rfl⟩, by kernel_rfl⟩
def t132 : TI := ⟨(.struct [(0, 49)]), 1, (.agg #[(.slice none 0 0)]), 24⟩
theorem ok132 : TI.ok Tryd.prog 132 t132 := ⟨⟨_, Tryd.underlying132, _, rfl, rfl⟩, by kernel_rfl⟩
def t133 : TI := ⟨(.struct [(0, 49)]), 1, (.agg #[(.slice none 0 0)]), 24⟩
theorem ok133 : TI.ok Tryd.prog 133 t133 := ⟨⟨_, Tryd.underlying133, _, rfl, rfl⟩, by kernel_rfl⟩
def t134 : TI := ⟨.fn, 1, .nilFunc, 8⟩
theorem ok134 : TI.ok Tryd.prog 134 t134 := ⟨⟨_, Tryd.underlying134, _, _, _, rfl⟩, by kernel_rfl⟩
def t135 : TI := ⟨.fn, 1, .nilFunc, 8⟩
theorem ok135 : TI.ok Tryd.prog 135 t135 := ⟨⟨_, Tryd.underlying135, _, _, _, rfl⟩, by kernel_rfl⟩
def t136 : TI := ⟨(.slice 33), 1, (.slice none 0 0), 24⟩
theorem ok136 : TI.ok Tryd.prog 136 t136 := ⟨⟨_, Tryd.underlying136, rfl⟩, by kernel_rfl⟩
def t137 : TI := ⟨(.array 256 5), 256, (.agg (Array.replicate 256 (.int .u8 0))), 256⟩
theorem ok137 : TI.ok Tryd.prog 137 t137 := ⟨⟨_, Tryd.underlying137, rfl⟩, by kernel_rfl⟩
def t138 : TI := ⟨.fn, 1, .nilFunc, 8⟩
theorem ok138 : TI.ok Tryd.prog 138 t138 := ⟨⟨_, Tryd.underlying138, _, _, _, rfl⟩, by kernel_rfl⟩
def t139 : TI := ⟨(.array 8 116), 8, (.agg #[(.int .u32 0), (.int .u32 0), (.int .u32 0), (.int .u32 0), (.int .u32 0), (.int .u32 0), (.int .u32 0), (.int .u32 0)]), 32⟩
theorem ok139 : TI.ok Tryd.prog 139 t139 := ⟨⟨_, Tryd.underlying139, rfl⟩, by kernel_rfl⟩
def t140 : TI := ⟨.fn, 1, .nilFunc, 8⟩
theorem ok140 : TI.ok Tryd.prog 140 t140 := ⟨⟨_, Tryd.underlying140, _, _, _, rfl⟩, by kernel_rfl⟩
def t141 : TI := ⟨.fn, 1, .nilFunc, 8⟩
theorem ok141 : TI.ok Tryd.prog 141 t141 := ⟨⟨_, Tryd.underlying141, _, _, _, rfl⟩, by kernel_rfl⟩
def t142 : TI := ⟨.fn, 1, .nilFunc, 8⟩
theorem ok142 : TI.ok Tryd.prog 142 t142 := ⟨⟨_, Tryd.underlying142, _, _, _, rfl⟩, by kernel_rfl⟩
def t143 : TI := ⟨(.ptr 158), 1, (.pointer none), 8⟩
theorem ok143 : TI.ok Tryd.prog 143 t143 := ⟨⟨_, Tryd.underlying143, rfl⟩, by kernel_rfl⟩
def t144 : TI := ⟨.fn, 1, .nilFunc, 8⟩
theorem ok144 : TI.ok Tryd.prog 144 t144 := ⟨⟨_, Tryd.underlying144, _, _, _, rfl⟩, by kernel_rfl⟩
def t145 : TI := ⟨.fn, 1, .nilFunc, 8⟩
theorem ok145 : TI.ok Tryd.prog 145 t145 := ⟨⟨_, Tryd.underlying145, _, _, _, rfl⟩, by kernel_rfl⟩
def t146 : TI := ⟨.fn, 1, .nilFunc, 8⟩
theorem ok146 : TI.ok Tryd.prog 146 t146 := ⟨⟨_, Tryd.underlying146, _, _, _, rfl⟩, by kernel_rfl⟩
def t147 : TI := ⟨.fn, 1, .nilFunc, 8⟩
theorem ok147 : TI.ok Tryd.prog 147 t147 := ⟨⟨_, Tryd.underlying147, _, _, _, rfl⟩, by kernel_rfl⟩
def t148 : TI := ⟨.fn, 1, .nilFunc, 8⟩
theorem ok148 : TI.ok Tryd.prog 148 t148 := ⟨⟨_, Tryd.underlying148, _, _, _, rfl⟩, by kernel_rfl⟩
def t149 : TI := ⟨.fn, 1, .nilFunc, 8⟩
theorem ok149 : TI.ok Tryd.prog 149 t149 := ⟨⟨_, Tryd.underlying149, _, _, _, rfl⟩, by kernel_rfl⟩
def t150 : TI := ⟨.fn, 1, .nilFunc, 8⟩
theorem ok150 : TI.ok Tryd.prog 150 t150 := ⟨⟨_, Tryd.underlying150, _, _, _, rfl⟩, by kernel_rfl⟩
def t151 : TI := ⟨.fn, 1, .nilFunc, 8⟩
theorem ok151 : TI.ok Tryd.prog 151 t151 := ⟨⟨_, Tryd.underlying151, _, _, _, rfl⟩, by kernel_rfl⟩
def t152 : TI := ⟨.fn, 1, .nilFunc, 8⟩
theorem ok152 : TI.ok Tryd.prog 152 t152 := ⟨⟨_, Tryd.underlying152, _, _, _, rfl⟩, by kernel_rfl⟩
def t153 : TI := ⟨.fn, 1, .nilFunc, 8⟩
theorem ok153 : TI.ok Tryd.prog 153 t153 := ⟨⟨_, Tryd.underlying153, _, _, _, rfl⟩, by kernel_rfl⟩
def t154 : TI := ⟨.fn, 1, .nilFunc, 8⟩
theorem ok154 : TI.ok Tryd.prog 154 t154 := ⟨⟨_, Tryd.underlying154, _, _, _, rfl⟩, by kernel_rfl⟩
def t155 : TI := ⟨.fn, 1, .nilFunc, 8⟩
theorem ok155 : TI.ok Tryd.prog 155 t155 := ⟨⟨_, Tryd.underlying155, _, _, _, rfl⟩, by kernel_rfl⟩
def t156 : TI := ⟨.fn, 1, .nilFunc, 8⟩
theorem ok156 : TI.ok Tryd.prog 156 t156 := ⟨⟨_, Tryd.underlying156, _, _, _, rfl⟩, by kernel_rfl⟩
def t157 : TI := ⟨(.array 64 5), 64, (.agg (Array.replicate 64 (.int .u8 0))), 64⟩
theorem ok157 : TI.ok Tryd.prog 157 t157 := ⟨⟨_, Tryd.underlying157, rfl⟩, by kernel_rfl⟩
def t158 : TI := ⟨(.array 64 5), 64, (.agg (Array.replicate 64 (.int .u8 0))), 64⟩
theorem ok158 : TI.ok Tryd.prog 158 t158 := ⟨⟨_, Tryd.underlying158, rfl⟩, by kernel_rfl⟩
def t159 : TI := ⟨.fn, 1, .nilFunc, 8⟩
theorem ok159 : TI.ok Tryd.prog 159 t159 := ⟨⟨_, Tryd.underlying159, _, _, _, rfl⟩, by kernel_rfl⟩
def t160 : TI := ⟨(.ptr 139), 1, (.pointer none), 8⟩
theorem ok160 : TI.ok Tryd.prog 160 t160 := ⟨⟨_, Tryd.underlying160, rfl⟩, by kernel_rfl⟩
def t161 : TI := ⟨.fn, 1, .nilFunc, 8⟩
theorem ok161 : TI.ok Tryd.prog 161 t161 := ⟨⟨_, Tryd.underlying161, _, _, _, rfl⟩, by kernel_rfl⟩
def t162 : TI := ⟨(.int .i64), 1, (.int .i64 0), 8⟩
theorem ok162 : TI.ok Tryd.prog 162 t162 := ⟨⟨_, Tryd.underlying162, rfl⟩, by kernel_rfl⟩
def t164 : TI := ⟨.fn, 1, .nilFunc, 8⟩
theorem ok164 : TI.ok Tryd.prog 164 t164 := ⟨⟨_, Tryd.underlying164, _, _, _, rfl⟩, by kernel_rfl⟩
def t165 : TI := ⟨.fn, 1, .nilFunc, 8⟩
theorem ok165 : TI.ok Tryd.prog 165 t165 := ⟨⟨_, Tryd.underlying165, _, _, _, rfl⟩, by kernel_rfl⟩
def t166 : TI := ⟨.fn, 1, .nilFunc, 8⟩
theorem ok166 : TI.ok Tryd.prog 166 t166 := ⟨⟨_, Tryd.underlying166, _, _, _, rfl⟩, by kernel_rfl⟩
def t167 : TI := ⟨.fn, 1, .nilFunc, 8⟩
theorem ok167 : TI.ok Tryd.prog 167 t167 := ⟨⟨_, Tryd.underlying167, _, _, _, rfl⟩, by kernel_rfl⟩
def t168 : TI := ⟨.fn, 1, .nilFunc, 8⟩
theorem ok168 : TI.ok Tryd.prog 168 t168 := ⟨⟨_, Tryd.underlying168, _, _, _, rfl⟩, by kernel_rfl⟩
def t169 : TI := ⟨.fn, 1, .nilFunc, 8⟩
theorem ok169 : TI.ok Tryd.prog 169 t169 := ⟨⟨_, Tryd.underlying169, _, _, _, rfl⟩, by kernel_rfl⟩
def t170 : TI := ⟨.fn, 1, .nilFunc, 8⟩
theorem ok170 : TI.ok Tryd.prog 170 t170 := ⟨⟨_, Tryd.underlying170, _, _, _, rfl⟩, by kernel_rfl⟩
def t171 : TI := ⟨.fn, 1, .nilFunc, 8⟩
theorem ok171 : TI.ok Tryd.prog 171 t171 := ⟨⟨_, Tryd.underlying171, _, _, _, rfl⟩, by kernel_rfl⟩
def t172 : TI := ⟨(.int .u64), 1, (.int .u64 0), 8⟩
theorem ok172 : TI.ok Tryd.prog 172 t172 := ⟨⟨_, Tryd.underlying172, rfl⟩, by kernel_rfl⟩
def t173 : TI := ⟨.fn, 1, .nilFunc, 8⟩
theorem ok173 : TI.ok Tryd.prog 173 t173 := ⟨⟨_, Tryd.underlying173, _, _, _, rfl⟩, by kernel_rfl⟩
def t174 : TI := ⟨.fn, 1, .nilFunc, 8⟩
theorem ok174 : TI.ok Tryd.prog 174 t174 := ⟨⟨_, Tryd.underlying174, _, _, _, rfl⟩, by kernel_rfl⟩
def t175 : TI := ⟨.fn, 1, .nilFunc, 8⟩
theorem ok175 : TI.ok Tryd.prog 175 t175 := ⟨⟨_, Tryd.underlying175, _, _, _, rfl⟩, by kernel_rfl⟩
def t176 : TI := ⟨(.ptr 3), 1, (.pointer none), 8⟩
theorem ok176 : TI.ok Tryd.prog 176 t176 := ⟨⟨_, Tryd.underlying176, rfl⟩, by kernel_rfl⟩
def t177 : TI := ⟨.fn, 1, .nilFunc, 8⟩
theorem ok177 : TI.ok Tryd.prog 177 t177 := ⟨⟨_, Tryd.underlying177, _, _, _, rfl⟩, by kernel_rfl⟩
def t178 : TI := ⟨(.ptr 172), 1, (.pointer none), 8⟩
theorem ok178 : TI.ok Tryd.prog 178 t178 := ⟨⟨_, Tryd.underlying178, rfl⟩, by kernel_rfl⟩
def t180 : TI := ⟨.fn, 1, .nilFunc, 8⟩
theorem ok180 : TI.ok Tryd.prog 180 t180 := ⟨⟨_, Tryd.underlying180, _, _, _, rfl⟩, by kernel_rfl⟩
def t181 : TI := ⟨.fn, 1, .nilFunc, 8⟩
theorem ok181 : TI.ok Tryd.prog 181 t181 := ⟨⟨_, Tryd.underlying181, _, _, _, rfl⟩, by kernel_rfl⟩
def t189 : TI := ⟨.fn, 1, .nilFunc, 8⟩
theorem ok189 : TI.ok Tryd.prog 189 t189 := ⟨⟨_, Tryd.underlying189, _, _, _, rfl⟩, by kernel_rfl⟩
def t190 : TI := ⟨(.ptr 5), 1, (.pointer none), 8⟩
theorem ok190 : TI.ok Tryd.prog 190 t190 := ⟨⟨_, Tryd.underlying190, rfl⟩, by kernel_rfl⟩
def T : List (Nat × TI) := [(1, t1), (2, t2), (3, t3), (4, t4), (5, t5), (9, t9), (12, t12), (13, t13), (20, t20), (21, t21), (22, t22), (23, t23), (24, t24), (25, t25), (26, t26), (27, t27), (28, t28), (29, t29), (30, t30), (31, t31), (32, t32), (33, t33), (35, t35), (37, t37), (38, t38), (39, t39), (40, t40), (42, t42), (44, t44), (45, t45), (46, t46), (47, t47), (48, t48), (49, t49), (50, t50), (52, t52), (53, t53), (54, t54), (55, t55), (56, t56), (57, t57), (58, t58), (59, t59), (60, t60), (61, t61), (62, t62), (63, t63), (64, t64), (65, t65), (67, t67), (68, t68), (69, t69), (70, t70), (71, t71), (72, t72), (73, t73), (75, t75), (76, t76), (77, t77), (78, t78), (79, t79), (80, t80), (81, t81), (82, t82), (83, t83), (84, t84), (85, t85), (86, t86), (87, t87), (88, t88), (89, t89), (90, t90), (91, t91), (92, t92), (93, t93), (94, t94), (95, t95), (96, t96), (98, t98), (99, t99), (100, t100), (102, t102), (104, t104), (105, t105), (107, t107), (108, t108), (110, t110), (111, t111), (112, t112), (113, t113), (114, t114), (115, t115), (116, t116), (117, t117), (118, t118), (119, t119), (120, t120), (121, t121), (122, t122), (124, t124), (125, t125), (126, t126), (127, t127), (128, t128), (129, t129), (131, t131), (132, t132), (133, t133), (134, t134), (135, t135), (136, t136), (137, t137), (138, t138), (139, t139), (140, t140), (141, t141), (142, t142), (143, t143), (144, t144), (145, t145), (146, t146), (147, t147), (148, t148), (149, t149), (150, t150), (151, t151), (152, t152), (153, t153), (154, t154), (155, t155), (156, t156), (157, t157), (158, t158), (159, t159), (160, t160), (161, t161), (162, t162), (164, t164), (165, t165), (166, t166), (167, t167), (168, t168), (169, t169), (170, t170), (171, t171), (172, t172), (173, t173), (174, t174), (175, t175), (176, t176), (177, t177), (178, t178), (180, t180), (181, t181), (189, t189), (190, t190)]
theorem okT : ∀ e ∈ T, TI.ok Tryd.prog e.1 e.2 :=
  List.forall_mem_cons.2 ⟨ok1, List.forall_mem_cons.2 ⟨ok2, List.forall_mem_cons.2 ⟨ok3, List.forall_mem_cons.2 ⟨ok4, List.forall_mem_cons.2 ⟨ok5, List.forall_mem_cons.2 ⟨ok9, List.forall_mem_cons.2 ⟨ok12, List.forall_mem_cons.2 ⟨ok13, List.forall_mem_cons.2 ⟨ok20, List.forall_mem_cons.2 ⟨ok21, List.forall_mem_cons.2 ⟨ok22, List.forall_mem_cons.2 ⟨ok23, List.forall_mem_cons.2 ⟨ok24, List.forall_mem_cons.2 ⟨ok25, List.forall_mem_cons.2 ⟨ok26, List.forall_mem_cons.2 ⟨ok27, List.forall_mem_cons.2 ⟨ok28, List.forall_mem_cons.2 ⟨ok29, List.forall_mem_cons.2 ⟨ok30, List.forall_mem_cons.2 ⟨ok31, List.forall_mem_cons.2 ⟨ok32, List.forall_mem_cons.2 ⟨ok33, List.forall_mem_cons.2 ⟨ok35, List.forall_mem_cons.2 ⟨ok37, List.forall_mem_cons.2 ⟨ok38, List.forall_mem_cons.2 ⟨ok39, List.forall_mem_cons.2 ⟨ok40, List.forall_mem_cons.2 ⟨ok42, List.forall_mem_cons.2 ⟨ok44, List.forall_mem_cons.2 ⟨ok45, List.forall_mem_cons.2 ⟨ok46, List.forall_mem_cons.2 ⟨ok47, List.forall_mem_cons.2 ⟨ok48, List.forall_mem_cons.2 ⟨ok49, List.forall_mem_cons.2 ⟨ok50, List.forall_mem_cons.2 ⟨ok52, List.forall_mem_cons.2 ⟨ok53, List.forall_mem_cons.2 ⟨ok54, List.forall_mem_cons.2 ⟨ok55, List.forall_mem_cons.2 ⟨ok56, List.forall_mem_cons.2 ⟨ok57, List.forall_mem_cons.2 ⟨ok58, List.forall_mem_cons.2 ⟨ok59, List.forall_mem_cons.2 ⟨ok60, List.forall_mem_cons.2 ⟨ok61, List.forall_mem_cons.2 ⟨ok62, List.forall_mem_cons.2 ⟨ok63, List.forall_mem_cons.2 ⟨ok64, List.forall_mem_cons.2 ⟨ok65, List.forall_mem_cons.2 ⟨ok67, List.forall_mem_cons.2 ⟨ok68, List.forall_mem_cons.2 ⟨ok69, List.forall_mem_cons.2 ⟨ok70, List.forall_mem_cons.2 ⟨ok71, List.forall_mem_cons.2 ⟨ok72, List.forall_mem_cons.2 ⟨ok73, List.forall_mem_cons.2 ⟨ok75, List.forall_mem_cons.2 ⟨ok76, List.forall_mem_cons.2 ⟨ok77, List.forall_mem_cons.2 ⟨ok78, List.forall_mem_cons.2 ⟨ok79, List.forall_mem_cons.2 ⟨ok80, List.forall_mem_cons.2 ⟨ok81, List.forall_mem_cons.2 ⟨ok82, List.forall_mem_cons.2 ⟨ok83, List.forall_mem_cons.2 ⟨ok84, List.forall_mem_cons.2 ⟨ok85, List.forall_mem_cons.2 ⟨ok86, List.forall_mem_cons.2 ⟨ok87, List.forall_mem_cons.2 ⟨ok88, List.forall_mem_cons.2 ⟨ok89, List.forall_mem_cons.2 ⟨ok90, List.forall_mem_cons.2 ⟨ok91, List.forall_mem_cons.2 ⟨ok92, List.forall_mem_cons.2 ⟨ok93, List.forall_mem_cons.2 ⟨ok94, List.forall_mem_cons.2 ⟨ok95, List.forall_mem_cons.2 ⟨ok96, List.forall_mem_cons.2 ⟨ok98, List.forall_mem_cons.2 ⟨ok99, List.forall_mem_cons.2 ⟨ok100, List.forall_mem_cons.2 ⟨ok102, List.forall_mem_cons.2 ⟨ok104, List.forall_mem_cons.2 ⟨ok105, List.forall_mem_cons.2 ⟨ok107, List.forall_mem_cons.2 ⟨ok108, List.forall_mem_cons.2 ⟨ok110, List.forall_mem_cons.2 ⟨ok111, List.forall_mem_cons.2 ⟨ok112, List.forall_mem_cons.2 ⟨ok113, List.forall_mem_cons.2 ⟨ok114, List.forall_mem_cons.2 ⟨ok115, List.forall_mem_cons.2 ⟨ok116, List.forall_mem_cons.2 ⟨ok117, List.forall_mem_cons.2 ⟨ok118, List.forall_mem_cons.2 ⟨ok119, List.forall_mem_cons.2 ⟨ok120, List.forall_mem_cons.2 ⟨ok121, List.forall_mem_cons.2 ⟨ok122, List.forall_mem_cons.2 ⟨ok124, List.forall_mem_cons.2 ⟨ok125, List.forall_mem_cons.2 ⟨ok126, List.forall_mem_cons.2 ⟨ok127, List.forall_mem_cons.2 ⟨ok128, List.forall_mem_cons.2 ⟨ok129, List.forall_mem_cons.2 ⟨ok131, List.forall_mem_cons.2 ⟨ok132, List.forall_mem_cons.2 ⟨ok133, List.forall_mem_cons.2 ⟨ok134, List.forall_mem_cons.2 ⟨ok135, List.forall_mem_cons.2 ⟨ok136, List.forall_mem_cons.2 ⟨ok137, List.forall_mem_cons.2 ⟨ok138, List.forall_mem_cons.2 ⟨ok139, List.forall_mem_cons.2 ⟨ok140, List.forall_mem_cons.2 ⟨ok141, List.forall_mem_cons.2 ⟨ok142, List.forall_mem_cons.2 ⟨ok143, List.forall_mem_cons.2 ⟨ok144, List.forall_mem_cons.2 ⟨ok145, List.forall_mem_cons.2 ⟨ok146, List.forall_mem_cons.2 ⟨ok147, List.forall_mem_cons.2 ⟨ok148, List.forall_mem_cons.2 ⟨ok149, List.forall_mem_cons.2 ⟨ok150, List.forall_mem_cons.2 ⟨ok151, List.forall_mem_cons.2 ⟨ok152, List.forall_mem_cons.2 ⟨ok153, List.forall_mem_cons.2 ⟨ok154, List.forall_mem_cons.2 ⟨ok155, List.forall_mem_cons.2 ⟨ok156, List.forall_mem_cons.2 ⟨ok157, List.forall_mem_cons.2 ⟨ok158, List.forall_mem_cons.2 ⟨ok159, List.forall_mem_cons.2 ⟨ok160, List.forall_mem_cons.2 ⟨ok161, List.forall_mem_cons.2 ⟨ok162, List.forall_mem_cons.2 ⟨ok164, List.forall_mem_cons.2 ⟨ok165, List.forall_mem_cons.2 ⟨ok166, List.forall_mem_cons.2 ⟨ok167, List.forall_mem_cons.2 ⟨ok168, List.forall_mem_cons.2 ⟨ok169, List.forall_mem_cons.2 ⟨ok170, List.forall_mem_cons.2 ⟨ok171, List.forall_mem_cons.2 ⟨ok172, List.forall_mem_cons.2 ⟨ok173, List.forall_mem_cons.2 ⟨ok174, List.forall_mem_cons.2 ⟨ok175, List.forall_mem_cons.2 ⟨ok176, List.forall_mem_cons.2 ⟨ok177, List.forall_mem_cons.2 ⟨ok178, List.forall_mem_cons.2 ⟨ok180, List.forall_mem_cons.2 ⟨ok181, List.forall_mem_cons.2 ⟨ok189, List.forall_mem_cons.2 ⟨ok190, fun _ h => nomatch h⟩⟩⟩⟩⟩⟩⟩⟩⟩⟩⟩⟩⟩⟩⟩⟩⟩⟩⟩⟩⟩⟩⟩⟩⟩⟩⟩⟩⟩⟩⟩⟩⟩⟩⟩⟩⟩⟩⟩⟩⟩⟩⟩⟩⟩⟩⟩⟩⟩⟩⟩⟩⟩⟩⟩⟩⟩⟩⟩⟩⟩⟩⟩⟩⟩⟩⟩⟩⟩⟩⟩⟩⟩⟩⟩⟩⟩⟩⟩⟩⟩⟩⟩⟩⟩⟩⟩⟩⟩⟩⟩⟩⟩⟩⟩⟩⟩⟩⟩⟩⟩⟩⟩⟩⟩⟩⟩⟩⟩⟩⟩⟩⟩⟩⟩⟩⟩⟩⟩⟩⟩⟩⟩⟩⟩⟩⟩⟩⟩⟩⟩⟩⟩⟩⟩⟩⟩⟩⟩⟩⟩⟩⟩⟩⟩⟩⟩⟩⟩⟩⟩⟩⟩⟩⟩⟩
def g1 : List AV := [.int .u32 1116352408, .int .u32 1899447441, .int .u32 3049323471, .int .u32 3921009573, .int .u32 961987163, .int .u32 1508970993, .int .u32 2453635748, .int .u32 2870763221, .int .u32 3624381080, .int .u32 310598401, .int .u32 607225278, .int .u32 1426881987, .int .u32 1925078388, .int .u32 2162078206, .int .u32 2614888103, .int .u32 3248222580, .int .u32 3835390401, .int .u32 4022224774, .int .u32 264347078, .int .u32 604807628, .int .u32 770255983, .int .u32 1249150122, .int .u32 1555081692, .int .u32 1996064986, .int .u32 2554220882, .int .u32 2821834349, .int .u32 2952996808, .int .u32 3210313671, .int .u32 3336571891, .int .u32 3584528711, .int .u32 113926993, .int .u32 338241895, .int .u32 666307205, .int .u32 773529912, .int .u32 1294757372, .int .u32 1396182291, .int .u32 1695183700, .int .u32 1986661051, .int .u32 2177026350, .int .u32 2456956037, .int .u32 2730485921, .int .u32 2820302411, .int .u32 3259730800, .int .u32 3345764771, .int .u32 3516065817, .int .u32 3600352804, .int .u32 4094571909, .int .u32 275423344, .int .u32 430227734, .int .u32 506948616, .int .u32 659060556, .int .u32 883997877, .int .u32 958139571, .int .u32 1322822218, .int .u32 1537002063, .int .u32 1747873779, .int .u32 1955562222, .int .u32 2024104815, .int .u32 2227730452, .int .u32 2361852424, .int .u32 2428436474, .int .u32 2756734187, .int .u32 3204031479, .int .u32 3329325298]
def G : GEnv := fun g => bif Nat.beq g 1 then some g1 else none
noncomputable def E : Env := { P := Tryd.prog, T := T, hT := okT, G := G, mixed := by kernel_rfl }
end Tryd
end Go.Gp

/- The octet codec: the walks. -/
namespace Go.Gp.Tryd
open Go.Proofs
set_option linter.unusedVariables false
set_option linter.unusedSimpArgs false
set_option maxHeartbeats 4000000

/-- How many bits a number has. -/
def bitLen (x : Nat) : Nat := if x = 0 then 0 else Nat.log2 x + 1

end Go.Gp.Tryd

/- The octet codec: numbers, strings, sequences. -/
namespace Go.Gp.Tryd
open Go.Proofs
set_option linter.unusedVariables false
set_option linter.unusedSimpArgs false
set_option maxHeartbeats 4000000

/-- The last n bytes of a number, the highest first. -/
def beN (x : Nat) : Nat → List UInt8
  | 0 => []
  | n + 1 => UInt8.ofNat (x / 2 ^ (8 * n)) :: beN x n
def octA (tag : UInt8) (bs : List UInt8) (items : List (List AV)) : List AV := [u8 tag, .sl .no 1 (bs.map byteRow), .sl .no 3 items]

theorem bd_bytes (n : Nat) (bs : List UInt8) : Bd n (.sl .no 1 (bs.map byteRow)) := by
  refine .sl (fun _ _ e => by cases e) fun x hx e he => ?_
  obtain ⟨b, _, rfl⟩ := List.mem_map.1 hx
  have := List.mem_singleton.1 he
  subst this
  exact .int
end Go.Gp.Tryd



/- The octet codec: readers of values. -/
namespace Go.Gp.Tryd
open Go.Proofs
set_option linter.unusedVariables false
set_option linter.unusedSimpArgs false
set_option maxHeartbeats 4000000

def readStr (tag : UInt8) (bs : List UInt8) (items : List (List AV)) (t : UInt8) (n : Int) : List UInt8 × Int :=
  if (tag == t) = true ∧ items = [] ∧ (bs.length : Int) ≤ n then (bs, 0) else ([], 12)

theorem u8_bne (a b : UInt8) : (((a.toNat : Nat) : Int) != ((b.toNat : Nat) : Int)) = !(a == b) := by
  rw [Bool.eq_iff_iff]
  simp only [bne_iff_ne, ne_eq, Bool.not_eq_true', beq_eq_false_iff_ne]
  constructor
  · intro h e; exact h (by rw [e])
  · intro h e; exact h (UInt8.toNat_inj.1 (by omega))

end Go.Gp.Tryd

/- The octet codec: sizes. -/
namespace Go.Gp.Tryd
open Go.Proofs
set_option linter.unusedVariables false
set_option linter.unusedSimpArgs false
set_option maxHeartbeats 4000000
set_option maxRecDepth 100000

def wide (n : Nat) : Nat := if n < 128 then 1 else 1 + (bitLen n + 7) / 8

end Go.Gp.Tryd

/- The octet codec: values as trees. -/
namespace Go.Gp.Tryd
open Go.Proofs
set_option linter.unusedVariables false
set_option linter.unusedSimpArgs false
set_option maxHeartbeats 4000000
set_option maxRecDepth 100000

inductive Oct where
  | mk (tag : UInt8) (bs : List UInt8) (items : List Oct)

def Oct.tag : Oct → UInt8 | .mk t _ _ => t
def Oct.bs : Oct → List UInt8 | .mk _ b _ => b
def Oct.items : Oct → List Oct | .mk _ _ is => is
mutual
def Oct.cells0 : Oct → List AV
  | .mk t bs is => octA t bs (Oct.cellsL is)
def Oct.cellsL : List Oct → List (List AV)
  | [] => []
  | o :: os => o.cells0 :: Oct.cellsL os
end
def Oct.cells (o : Oct) : List AV := octA o.tag o.bs (Oct.cellsL o.items)
theorem cells_eq (o : Oct) : o.cells0 = o.cells := by cases o; simp only [Oct.cells0, Oct.cells, Oct.tag, Oct.bs, Oct.items]
mutual
/-- The bytes inside, and the whole size. -/
def Oct.inner : Oct → Nat
  | .mk t bs is => bs.length + Oct.sizeL is
def Oct.sizeL : List Oct → Nat
  | [] => 0
  | .mk t bs is :: os => (1 + wide (bs.length + Oct.sizeL is) + (bs.length + Oct.sizeL is)) + Oct.sizeL os
end
def Oct.size (o : Oct) : Nat := 1 + wide o.inner + o.inner

mutual
theorem Oct.bd0 (n : Nat) : ∀ o : Oct, ∀ e ∈ o.cells0, Bd n e
  | .mk t bs is, e, he => by
    simp only [Oct.cells0, octA, List.mem_cons, List.not_mem_nil, or_false] at he
    rcases he with rfl | rfl | rfl
    · exact .int
    · exact bd_bytes n bs
    · exact .sl (fun _ _ e => by cases e) (Oct.bdL n is)
theorem Oct.bdL (n : Nat) : ∀ os : List Oct, ∀ x ∈ Oct.cellsL os, ∀ e ∈ x, Bd n e
  | [], x, hx => by simp [Oct.cellsL] at hx
  | o :: os, x, hx => by
    simp only [Oct.cellsL, List.mem_cons] at hx
    rcases hx with rfl | hx
    · exact Oct.bd0 n o
    · exact Oct.bdL n os x hx
end
theorem Oct.bd (n : Nat) (o : Oct) : ∀ e ∈ o.cells, Bd n e := by rw [← cells_eq]; exact Oct.bd0 n o
end Go.Gp.Tryd

/- The octet codec: sizes of values. -/
namespace Go.Gp.Tryd
open Go.Proofs
set_option linter.unusedVariables false
set_option linter.unusedSimpArgs false
set_option maxHeartbeats 4000000
set_option maxRecDepth 100000

theorem sizeL_cons (o : Oct) (os : List Oct) : Oct.sizeL (o :: os) = o.size + Oct.sizeL os := by cases o; simp only [Oct.sizeL, Oct.size, Oct.inner]
theorem size_mk (t : UInt8) (bs : List UInt8) (is : List Oct) : (Oct.mk t bs is).size = 1 + wide (bs.length + Oct.sizeL is) + (bs.length + Oct.sizeL is) := by simp only [Oct.size, Oct.inner]
end Go.Gp.Tryd

/- The octet codec: encodings. -/
namespace Go.Gp.Tryd
open Go.Proofs
set_option linter.unusedVariables false
set_option linter.unusedSimpArgs false
set_option maxHeartbeats 4000000
set_option maxRecDepth 100000

def lenB (n : Nat) : List UInt8 := if n < 128 then [UInt8.ofNat n] else UInt8.ofNat (128 + (wide n - 1)) :: beN n (wide n - 1)

mutual
def Oct.enc0 : Oct → List UInt8
  | .mk t bs is => t :: (lenB (bs.length + Oct.sizeL is) ++ (bs ++ Oct.encL is))
def Oct.encL : List Oct → List UInt8
  | [] => []
  | o :: os => o.enc0 ++ Oct.encL os
end
def Oct.enc (o : Oct) : List UInt8 := o.tag :: (lenB (o.bs.length + Oct.sizeL o.items) ++ (o.bs ++ Oct.encL o.items))
theorem beN_length (x : Nat) : ∀ n, (beN x n).length = n
  | 0 => rfl
  | n + 1 => by rw [beN, List.length_cons, beN_length x n]
theorem lenB_length (n : Nat) : (lenB n).length = wide n := by
  unfold lenB
  split
  · rw [wide, if_pos (by assumption)]; rfl
  · rw [List.length_cons, beN_length, wide, if_neg (by assumption)]; omega
mutual
theorem enc0_length : ∀ o : Oct, o.enc0.length = o.size
  | .mk t bs is => by
    have := encL_length is
    rw [Oct.enc0, size_mk]
    simp only [List.length_cons, List.length_append, lenB_length, this]
    omega
theorem encL_length : ∀ os : List Oct, (Oct.encL os).length = Oct.sizeL os
  | [] => by simp [Oct.encL, Oct.sizeL]
  | o :: os => by
    have h1 := enc0_length o
    have h2 := encL_length os
    rw [Oct.encL, List.length_append, h1, h2, sizeL_cons]
end
end Go.Gp.Tryd

/- The octet codec: all values of a value; Check. -/
namespace Go.Gp.Tryd
open Go.Proofs
set_option linter.unusedVariables false
set_option linter.unusedSimpArgs false
set_option maxHeartbeats 4000000
set_option maxRecDepth 100000

def itemOf (o : Oct) (d : Nat) : List AV := [.agg o.cells, .int .i64 (d : Nat)]

mutual
def Oct.pre0 : Oct → Nat → List (Oct × Nat)
  | .mk t bs is, d => (.mk t bs is, d) :: Oct.preL is (d + 1)
def Oct.preL : List Oct → Nat → List (Oct × Nat)
  | [], _ => []
  | o :: os, d => o.pre0 d ++ Oct.preL os d
end
def Oct.pre (o : Oct) (d : Nat) : List (Oct × Nat) := (o, d) :: Oct.preL o.items (d + 1)
def Oct.its (o : Oct) (d : Nat) : List (List AV) := (o.pre d).map fun p => itemOf p.1 p.2

end Go.Gp.Tryd

/- The octet codec: Check, Encode. -/
namespace Go.Gp.Tryd
open Go.Proofs
set_option linter.unusedVariables false
set_option linter.unusedSimpArgs false
set_option maxHeartbeats 4000000
set_option maxRecDepth 100000

structure ChkS where
  n : Nat
  ok : Bool
  e : Int

end Go.Gp.Tryd



/- The octet codec: lists, and what is read off values. -/
namespace Go.Gp.Tryd
open Go.Proofs
set_option linter.unusedVariables false
set_option linter.unusedSimpArgs false
set_option maxHeartbeats 4000000
set_option maxRecDepth 100000

/-- Bytes as a number, the highest first. -/
def beVal (x : Nat) : List UInt8 → Nat
  | [] => x
  | b :: r => beVal (256 * x + b.toNat) r

end Go.Gp.Tryd

/- The octet codec: the reader. -/
namespace Go.Gp.Tryd
open Go.Proofs
set_option linter.unusedVariables false
set_option linter.unusedSimpArgs false
set_option maxHeartbeats 4000000
set_option maxRecDepth 100000

/-- A length at the beginning of bytes, and what is left. -/
def lenOf : List UInt8 → Option (Nat × List UInt8)
  | [] => none
  | c :: r => if c.toNat < 128 then some (c.toNat, r) else
    if 129 ≤ c.toNat ∧ c.toNat ≤ 131 ∧ c.toNat - 128 ≤ r.length ∧ wide (beVal 0 (r.take (c.toNat - 128))) = c.toNat - 127 then some (beVal 0 (r.take (c.toNat - 128)), r.drop (c.toNat - 128)) else none

end Go.Gp.Tryd

/- The octet codec: reading a value. -/
namespace Go.Gp.Tryd
open Go.Proofs
set_option linter.unusedVariables false
set_option linter.unusedSimpArgs false
set_option maxHeartbeats 4000000
set_option maxRecDepth 100000

def parseW (p : List UInt8 → Option (Oct × List UInt8)) : Nat → List UInt8 → Option (List Oct)
  | _, [] => some []
  | 0, _ :: _ => none
  | m + 1, c :: r => match p (c :: r) with
    | none => none
    | some (o, rest) => (parseW p m rest).map (o :: ·)

def parse : Nat → List UInt8 → Option (Oct × List UInt8)
  | 0, _ => none
  | _ + 1, [] => none
  | k + 1, tg :: r => match lenOf r with
    | none => none
    | some (n, r2) => if n ≤ r2.length then
        (if tg.toNat < 128 then some (.mk tg (r2.take n) [], r2.drop n) else (parseW (parse k) n (r2.take n)).map fun os => (.mk tg [] os, r2.drop n))
        else none

end Go.Gp.Tryd



/- The octet codec: Decode. -/
namespace Go.Gp.Tryd
open Go.Proofs
set_option linter.unusedVariables false
set_option linter.unusedSimpArgs false
set_option maxHeartbeats 4000000
set_option maxRecDepth 100000

def zeroOct : Oct := .mk 0 [] []
end Go.Gp.Tryd

/- The manifest's checks: the walks. -/
namespace Go.Gp.Tryd
open Go.Proofs
set_option linter.unusedVariables false
set_option linter.unusedSimpArgs false

theorem key24 : KeyT Tryd.E 24 := ⟨by kernel_rfl, by kernel_rfl⟩
theorem key53 : KeyT Tryd.E 63 := ⟨by kernel_rfl, by kernel_rfl⟩

def isTime (t : Int) : Bool := decide (0 ≤ t) && decide (t ≤ 1099511627776)

theorem isTime_A (t : Int) (H : List AObj) : CallsA E 61 [.int .i64 t] H (Is H (.bool (isTime t))) := by
  refine .enter Tryd.func61 rfl rfl rfl 9 Tryd.ntmps61 (Nat.le_of_ble_eq_true rfl) ?_
  repeat' first
    | refine WpA.seq ?_
    | refine WpA.region ?_
    | refine WpOps.op _ rfl rfl rfl rfl rfl ?_
    | refine WpOps.skip rfl rfl rfl ?_
    | refine WpOps.gsplit _ rfl rfl rfl (fun h => ?_) (fun h => ?_)
    | refine WpOps.nil ?_
    | refine WpA.ret ?_
  all_goals (refine retK.ok rfl rfl ?_ .bool; simp [isTime, resV, forget, look] at h ⊢; omega)

/-- A letter of a name, as the reference has it. -/
def refLetter (b : UInt8) : Bool := (decide (97 ≤ b.toNat) && decide (b.toNat ≤ 122)) || (decide (48 ≤ b.toNat) && decide (b.toNat ≤ 57))

theorem letter_A (b : UInt8) (H : List AObj) : CallsA E 85 [u8 b] H (Is H (.bool (refLetter b))) := by
  refine .enter Tryd.func85 rfl rfl rfl 17 Tryd.ntmps85 (Nat.le_of_ble_eq_true rfl) ?_
  repeat' first
    | refine WpA.seq ?_
    | refine WpA.region ?_
    | refine WpOps.op _ rfl rfl rfl rfl rfl ?_
    | refine WpOps.skip rfl rfl rfl ?_
    | refine WpOps.gsplit _ rfl rfl rfl (fun h => ?_) (fun h => ?_)
    | refine WpOps.nil ?_
    | refine WpA.ret ?_
  all_goals (refine retK.ok rfl rfl (congrArg AV.bool ?_) .bool; simp at *; rw [Bool.eq_iff_iff]; simp [refLetter]; omega)

def okName (b : UInt8) : Bool := refLetter b || (decide (65 ≤ b.toNat) && decide (b.toNat ≤ 90)) || b.toNat == 45 || b.toNat == 95 || b.toNat == 46
def nameOk (s : List UInt8) (i : Nat) : Bool := (s.drop i).all okName

theorem nameOk_step {s : List UInt8} {i : Nat} (h : i < s.length) : nameOk s i = (okName s[i] && nameOk s (i + 1)) := by
  unfold nameOk
  rw [List.drop_eq_getElem_cons h, List.all_cons]

def name (s : List UInt8) : Bool := decide (1 ≤ s.length) && decide (s.length ≤ 40) && !(s == [46]) && !(s == [46, 46]) && nameOk s 0

theorem refName_A (s : List UInt8) (H : List AObj) : CallsA E 66 [.str s] H (Is H (.bool (name s))) := by
  refine .enter Tryd.func66 rfl rfl rfl 53 Tryd.ntmps66 (Nat.le_of_ble_eq_true rfl) ?_
  repeat' first
    | refine WpA.seq ?_
    | refine WpA.region ?_
    | refine WpOps.op _ rfl rfl rfl rfl rfl ?_
    | refine WpOps.skip rfl rfl rfl ?_
    | refine WpOps.gsplit _ rfl rfl rfl (fun h => ?_) (fun h => ?_)
    | refine WpA.block ?_
    | refine WpOps.nil ?_
    | refine WpA.ret ?_
    | refine WpA.skip ?_
    | refine WpA.condT rfl ?_
    | refine WpA.cond _ rfl (fun h => ?_) (fun h => ?_)
  · refine retK.ok rfl rfl (congrArg AV.bool ?_) .bool
    simp at *
    simp [name]; omega
  · refine retK.ok rfl rfl (congrArg AV.bool ?_) .bool
    simp at *
    simp [name]; omega
  · refine retK.ok rfl rfl (congrArg AV.bool ?_) .bool
    simp at *
    simp [name, *]
  · refine retK.ok rfl rfl (congrArg AV.bool ?_) .bool
    simp at *
    simp [name, *]
  · rename_i h1 h2 h3
    simp at h1 h2 h3 h
    refine WpA.loopS (α := Nat) (fun i => [(0, .str s), (3, .int .i64 i)]) (fun _ => H ++ []) (fun i => i ≤ s.length ∧ nameOk s 0 = nameOk s i) (fun i => s.length - i) 0 ⟨Nat.zero_le _, rfl⟩ ⟨rfl, rfl, trivial⟩ rfl ?_
    rintro i ⟨hi, hn⟩
    repeat' first
      | refine WpA.seq ?_
      | refine WpA.region ?_
      | refine WpOps.op _ rfl rfl rfl rfl rfl ?_
      | refine WpA.block ?_
      | refine WpA.exit ?_
      | refine WpOps.nil ?_
      | refine WpA.ret ?_
      | refine WpA.skip ?_
      | refine WpA.cond _ rfl (fun h => ?_) (fun h => ?_)
    · simp at h
      have hlt : i < s.length := h
      refine WpOps.indexS s[i] rfl rfl rfl rfl rfl rfl rfl (Int.natCast_nonneg i) (by simp) ?_
      have hd := nameOk_step hlt
      have hu : okName s[i] = (refLetter s[i] || (decide (65 ≤ s[i].toNat) && decide (s[i].toNat ≤ 90)) || s[i].toNat == 45 || s[i].toNat == 95 || s[i].toNat == 46) := rfl
      repeat' first
        | refine WpA.seq ?_
        | refine WpA.region ?_
        | refine WpOps.op _ rfl rfl rfl rfl rfl ?_
        | refine WpOps.skip rfl rfl rfl ?_
        | (refine WpOps.call rfl rfl rfl rfl rfl (by exact letter_A _ _) ?_; rintro _ _ ⟨rfl, rfl⟩)
        | refine WpOps.gsplit _ rfl rfl rfl (fun h => ?_) (fun h => ?_)
        | refine WpOps.nil ?_
        | refine WpA.ret ?_
        | refine WpA.skip ?_
        | refine WpA.condF rfl ?_
        | refine WpA.cond _ rfl (fun h => ?_) (fun h => ?_)
      all_goals first
        | (refine retK.ok rfl rfl (congrArg AV.bool ?_) .bool
           have hb : okName s[i] = false := by
             rw [hu]
             simp at *
             simp [*]
             omega
           rw [name, hn, hd, hb]; simp)
        | (refine ⟨i + 1, ⟨hlt, ?_⟩, by omega, ⟨rfl, congrArg (AV.int .i64) (wrap64 (by omega) (by omega)), trivial⟩, rfl⟩
           have hb : okName s[i] = true := by
             rw [hu]
             simp at *
             first
               | (simp [*]; done)
               | (simp [*]; omega)
           rw [hn, hd, hb]; simp)
    · refine retK.ok rfl rfl (congrArg AV.bool ?_) .bool
      simp at h
      rw [name, hn, nameOk, List.drop_eq_nil_of_le (by omega)]
      simp; exact ⟨⟨⟨by omega, by omega⟩, h3⟩, by assumption⟩
end Go.Gp.Tryd
