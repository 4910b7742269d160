/- Part of a proof: GhEnv1, GhW1, GhW2 -/
import Derived.Test.YtlmjiblfmhaicaaGreatDoorK3
import Derived.Test.YtlmjiblfmhaicaaGreatDoorK6
import Derived.Test.YtlmjiblfmhaicaaGreatDoorProg
import Derived.KernelRfl

set_option linter.unusedSectionVars false

/- The types that the walks name, as a table. -/
namespace Go.Gp
open Go.Proofs
set_option maxRecDepth 100000
namespace Tryz
def t1 : TI := ⟨.fn, 1, .nilFunc, 8⟩
theorem ok1 : TI.ok Tryz.prog 1 t1 := ⟨⟨_, Tryz.underlying1, _, _, _, rfl⟩, by kernel_rfl⟩
def t2 : TI := ⟨(.int .i64), 1, (.int .i64 0), 8⟩
theorem ok2 : TI.ok Tryz.prog 2 t2 := ⟨⟨_, Tryz.underlying2, rfl⟩, by kernel_rfl⟩
def t3 : TI := ⟨(.int .i64), 1, (.int .i64 0), 8⟩
theorem ok3 : TI.ok Tryz.prog 3 t3 := ⟨⟨_, Tryz.underlying3, rfl⟩, by kernel_rfl⟩
def t4 : TI := ⟨.basic, 1, (.bool false), 1⟩
theorem ok4 : TI.ok Tryz.prog 4 t4 := ⟨⟨_, Tryz.underlying4, rfl⟩, by kernel_rfl⟩
def t5 : TI := ⟨(.int .u8), 1, (.int .u8 0), 1⟩
theorem ok5 : TI.ok Tryz.prog 5 t5 := ⟨⟨_, Tryz.underlying5, rfl⟩, by kernel_rfl⟩
def t9 : TI := ⟨.str, 1, (.string ⟨#[]⟩), 16⟩
theorem ok9 : TI.ok Tryz.prog 9 t9 := ⟨⟨_, Tryz.underlying9, rfl⟩, by kernel_rfl⟩
def t12 : TI := ⟨(.int .u64), 1, (.int .u64 0), 8⟩
theorem ok12 : TI.ok Tryz.prog 12 t12 := ⟨⟨_, Tryz.underlying12, rfl⟩, by kernel_rfl⟩
def t13 : TI := ⟨(.struct [(0, 9), (1, 12)]), 2, (.agg #[(.string ⟨#[]⟩), (.int .u64 0)]), 24⟩
theorem ok13 : TI.ok Tryz.prog 13 t13 := ⟨⟨_, Tryz.underlying13, _, rfl, rfl⟩, by kernel_rfl⟩
def t20 : TI := ⟨.iface, 1, .nilIface, 16⟩
theorem ok20 : TI.ok Tryz.prog 20 t20 := ⟨⟨_, Tryz.underlying20, _, rfl⟩, by kernel_rfl⟩
def t21 : TI := ⟨(.int .i32), 1, (.int .i32 0), 4⟩
theorem ok21 : TI.ok Tryz.prog 21 t21 := ⟨⟨_, Tryz.underlying21, rfl⟩, by kernel_rfl⟩
def t22 : TI := ⟨(.int .u64), 1, (.int .u64 0), 8⟩
theorem ok22 : TI.ok Tryz.prog 22 t22 := ⟨⟨_, Tryz.underlying22, rfl⟩, by kernel_rfl⟩
def t23 : TI := ⟨(.struct [(0, 2), (1, 2)]), 2, (.agg #[(.int .i64 0), (.int .i64 0)]), 16⟩
theorem ok23 : TI.ok Tryz.prog 23 t23 := ⟨⟨_, Tryz.underlying23, _, rfl, rfl⟩, by kernel_rfl⟩
def t24 : TI := ⟨(.struct [(0, 2), (1, 2)]), 2, (.agg #[(.int .i64 0), (.int .i64 0)]), 16⟩
theorem ok24 : TI.ok Tryz.prog 24 t24 := ⟨⟨_, Tryz.underlying24, _, rfl, rfl⟩, by kernel_rfl⟩
def t25 : TI := ⟨(.array 16 5), 16, (.agg #[(.int .u8 0), (.int .u8 0), (.int .u8 0), (.int .u8 0), (.int .u8 0), (.int .u8 0), (.int .u8 0), (.int .u8 0), (.int .u8 0), (.int .u8 0), (.int .u8 0), (.int .u8 0), (.int .u8 0), (.int .u8 0), (.int .u8 0), (.int .u8 0)]), 16⟩
theorem ok25 : TI.ok Tryz.prog 25 t25 := ⟨⟨_, Tryz.underlying25, rfl⟩, by kernel_rfl⟩
def t26 : TI := ⟨(.array 16 5), 16, (.agg #[(.int .u8 0), (.int .u8 0), (.int .u8 0), (.int .u8 0), (.int .u8 0), (.int .u8 0), (.int .u8 0), (.int .u8 0), (.int .u8 0), (.int .u8 0), (.int .u8 0), (.int .u8 0), (.int .u8 0), (.int .u8 0), (.int .u8 0), (.int .u8 0)]), 16⟩
theorem ok26 : TI.ok Tryz.prog 26 t26 := ⟨⟨_, Tryz.underlying26, rfl⟩, by kernel_rfl⟩
def t27 : TI := ⟨(.struct [(0, 26), (16, 3)]), 17, (.agg #[(.int .u8 0), (.int .u8 0), (.int .u8 0), (.int .u8 0), (.int .u8 0), (.int .u8 0), (.int .u8 0), (.int .u8 0), (.int .u8 0), (.int .u8 0), (.int .u8 0), (.int .u8 0), (.int .u8 0), (.int .u8 0), (.int .u8 0), (.int .u8 0), (.int .i64 0)]), 24⟩
theorem ok27 : TI.ok Tryz.prog 27 t27 := ⟨⟨_, Tryz.underlying27, _, rfl, rfl⟩, by kernel_rfl⟩
def t28 : TI := ⟨(.struct [(0, 26), (16, 3)]), 17, (.agg #[(.int .u8 0), (.int .u8 0), (.int .u8 0), (.int .u8 0), (.int .u8 0), (.int .u8 0), (.int .u8 0), (.int .u8 0), (.int .u8 0), (.int .u8 0), (.int .u8 0), (.int .u8 0), (.int .u8 0), (.int .u8 0), (.int .u8 0), (.int .u8 0), (.int .i64 0)]), 24⟩
theorem ok28 : TI.ok Tryz.prog 28 t28 := ⟨⟨_, Tryz.underlying28, _, rfl, rfl⟩, by kernel_rfl⟩
def t29 : TI := ⟨(.slice 83), 1, (.slice none 0 0), 24⟩
theorem ok29 : TI.ok Tryz.prog 29 t29 := ⟨⟨_, Tryz.underlying29, rfl⟩, by kernel_rfl⟩
def t30 : TI := ⟨(.slice 75), 1, (.slice none 0 0), 24⟩
theorem ok30 : TI.ok Tryz.prog 30 t30 := ⟨⟨_, Tryz.underlying30, rfl⟩, by kernel_rfl⟩
def t31 : TI := ⟨(.struct [(0, 29), (1, 29), (2, 30)]), 3, (.agg #[(.slice none 0 0), (.slice none 0 0), (.slice none 0 0)]), 72⟩
theorem ok31 : TI.ok Tryz.prog 31 t31 := ⟨⟨_, Tryz.underlying31, _, rfl, rfl⟩, by kernel_rfl⟩
def t32 : TI := ⟨(.struct [(0, 29), (1, 29), (2, 30)]), 3, (.agg #[(.slice none 0 0), (.slice none 0 0), (.slice none 0 0)]), 72⟩
theorem ok32 : TI.ok Tryz.prog 32 t32 := ⟨⟨_, Tryz.underlying32, _, rfl, rfl⟩, by kernel_rfl⟩
def t33 : TI := ⟨(.slice 26), 1, (.slice none 0 0), 24⟩
theorem ok33 : TI.ok Tryz.prog 33 t33 := ⟨⟨_, Tryz.underlying33, rfl⟩, by kernel_rfl⟩
def t34 : TI := ⟨(.struct [(0, 3), (1, 33), (2, 33)]), 3, (.agg #[(.int .i64 0), (.slice none 0 0), (.slice none 0 0)]), 56⟩
theorem ok34 : TI.ok Tryz.prog 34 t34 := ⟨⟨_, Tryz.underlying34, _, rfl, rfl⟩, by kernel_rfl⟩
def t35 : TI := ⟨(.struct [(0, 3), (1, 33), (2, 33)]), 3, (.agg #[(.int .i64 0), (.slice none 0 0), (.slice none 0 0)]), 56⟩
theorem ok35 : TI.ok Tryz.prog 35 t35 := ⟨⟨_, Tryz.underlying35, _, rfl, rfl⟩, by kernel_rfl⟩
def t36 : TI := ⟨(.struct [(0, 22), (1, 9), (2, 9), (3, 24), (5, 28), (22, 4), (23, 4), (24, 32), (27, 9), (28, 9), (29, 9), (30, 9), (31, 9), (32, 35)]), 35, (.agg #[(.int .u64 0), (.string ⟨#[]⟩), (.string ⟨#[]⟩), (.int .i64 0), (.int .i64 0), (.int .u8 0), (.int .u8 0), (.int .u8 0), (.int .u8 0), (.int .u8 0), (.int .u8 0), (.int .u8 0), (.int .u8 0), (.int .u8 0), (.int .u8 0), (.int .u8 0), (.int .u8 0), (.int .u8 0), (.int .u8 0), (.int .u8 0), (.int .u8 0), (.int .i64 0), (.bool false), (.bool false), (.slice none 0 0), (.slice none 0 0), (.slice none 0 0), (.string ⟨#[]⟩), (.string ⟨#[]⟩), (.string ⟨#[]⟩), (.string ⟨#[]⟩), (.string ⟨#[]⟩), (.int .i64 0), (.slice none 0 0), (.slice none 0 0)]), 296⟩
theorem ok36 : TI.ok Tryz.prog 36 t36 := ⟨⟨_, Tryz.underlying36, _, rfl, rfl⟩, by kernel_rfl⟩
def t37 : TI := ⟨(.struct [(0, 22), (1, 9), (2, 9), (3, 24), (5, 28), (22, 4), (23, 4), (24, 32), (27, 9), (28, 9), (29, 9), (30, 9), (31, 9), (32, 35)]), 35, (.agg #[(.int .u64 0), (.string ⟨#[]⟩), (.string ⟨#[]⟩), (.int .i64 0), (.int .i64 0), (.int .u8 0), (.int .u8 0), (.int .u8 0), (.int .u8 0), (.int .u8 0), (.int .u8 0), (.int .u8 0), (.int .u8 0), (.int .u8 0), (.int .u8 0), (.int .u8 0), (.int .u8 0), (.int .u8 0), (.int .u8 0), (.int .u8 0), (.int .u8 0), (.int .i64 0), (.bool false), (.bool false), (.slice none 0 0), (.slice none 0 0), (.slice none 0 0), (.string ⟨#[]⟩), (.string ⟨#[]⟩), (.string ⟨#[]⟩), (.string ⟨#[]⟩), (.string ⟨#[]⟩), (.int .i64 0), (.slice none 0 0), (.slice none 0 0)]), 296⟩
theorem ok37 : TI.ok Tryz.prog 37 t37 := ⟨⟨_, Tryz.underlying37, _, rfl, rfl⟩, by kernel_rfl⟩
def t38 : TI := ⟨.fn, 1, .nilFunc, 8⟩
theorem ok38 : TI.ok Tryz.prog 38 t38 := ⟨⟨_, Tryz.underlying38, _, _, _, rfl⟩, by kernel_rfl⟩
def t39 : TI := ⟨.fn, 1, .nilFunc, 8⟩
theorem ok39 : TI.ok Tryz.prog 39 t39 := ⟨⟨_, Tryz.underlying39, _, _, _, rfl⟩, by kernel_rfl⟩
def t40 : TI := ⟨(.int .i64), 1, (.int .i64 0), 8⟩
theorem ok40 : TI.ok Tryz.prog 40 t40 := ⟨⟨_, Tryz.underlying40, rfl⟩, by kernel_rfl⟩
def t41 : TI := ⟨.fn, 1, .nilFunc, 8⟩
theorem ok41 : TI.ok Tryz.prog 41 t41 := ⟨⟨_, Tryz.underlying41, _, _, _, rfl⟩, by kernel_rfl⟩
def t42 : TI := ⟨.fn, 1, .nilFunc, 8⟩
theorem ok42 : TI.ok Tryz.prog 42 t42 := ⟨⟨_, Tryz.underlying42, _, _, _, rfl⟩, by kernel_rfl⟩
def t43 : TI := ⟨.fn, 1, .nilFunc, 8⟩
theorem ok43 : TI.ok Tryz.prog 43 t43 := ⟨⟨_, Tryz.underlying43, _, _, _, rfl⟩, by kernel_rfl⟩
def t44 : TI := ⟨(.slice 9), 1, (.slice none 0 0), 24⟩
theorem ok44 : TI.ok Tryz.prog 44 t44 := ⟨⟨_, Tryz.underlying44, rfl⟩, by kernel_rfl⟩
def t45 : TI := ⟨.fn, 1, .nilFunc, 8⟩
theorem ok45 : TI.ok Tryz.prog 45 t45 := ⟨⟨_, Tryz.underlying45, _, _, _, rfl⟩, by kernel_rfl⟩
def t46 : TI := ⟨.fn, 1, .nilFunc, 8⟩
theorem ok46 : TI.ok Tryz.prog 46 t46 := ⟨⟨_, Tryz.underlying46, _, _, _, rfl⟩, by kernel_rfl⟩
def t47 : TI := ⟨.fn, 1, .nilFunc, 8⟩
theorem ok47 : TI.ok Tryz.prog 47 t47 := ⟨⟨_, Tryz.underlying47, _, _, _, rfl⟩, by kernel_rfl⟩
def t48 : TI := ⟨.fn, 1, .nilFunc, 8⟩
theorem ok48 : TI.ok Tryz.prog 48 t48 := ⟨⟨_, Tryz.underlying48, _, _, _, rfl⟩, by kernel_rfl⟩
def t49 : TI := ⟨.fn, 1, .nilFunc, 8⟩
theorem ok49 : TI.ok Tryz.prog 49 t49 := ⟨⟨_, Tryz.underlying49, _, _, _, rfl⟩, by kernel_rfl⟩
def t50 : TI := ⟨.fn, 1, .nilFunc, 8⟩
theorem ok50 : TI.ok Tryz.prog 50 t50 := ⟨⟨_, Tryz.underlying50, _, _, _, rfl⟩, by kernel_rfl⟩
def t51 : TI := ⟨.fn, 1, .nilFunc, 8⟩
theorem ok51 : TI.ok Tryz.prog 51 t51 := ⟨⟨_, Tryz.underlying51, _, _, _, rfl⟩, by kernel_rfl⟩
def t52 : TI := ⟨.fn, 1, .nilFunc, 8⟩
theorem ok52 : TI.ok Tryz.prog 52 t52 := ⟨⟨_, Tryz.underlying52, _, _, _, rfl⟩, by kernel_rfl⟩
def t53 : TI := ⟨.fn, 1, .nilFunc, 8⟩
theorem ok53 : TI.ok Tryz.prog 53 t53 := ⟨⟨_, Tryz.underlying53, _, _, _, rfl⟩, by kernel_rfl⟩
def t54 : TI := ⟨(.slice 40), 1, (.slice none 0 0), 24⟩
theorem ok54 : TI.ok Tryz.prog 54 t54 := ⟨⟨_, Tryz.underlying54, rfl⟩, by kernel_rfl⟩
def t55 : TI := ⟨.fn, 1, .nilFunc, 8⟩
theorem ok55 : TI.ok Tryz.prog 55 t55 := ⟨⟨_, Tryz.underlying55, _, _, _, rfl⟩, by kernel_rfl⟩
def t56 : TI := ⟨.fn, 1, .nilFunc, 8⟩
theorem ok56 : TI.ok Tryz.prog 56 t56 := ⟨⟨_, Tryz.underlying56, _, _, _, rfl⟩, by kernel_rfl⟩
def t57 : TI := ⟨.fn, 1, .nilFunc, 8⟩
theorem ok57 : TI.ok Tryz.prog 57 t57 := ⟨⟨_, Tryz.underlying57, _, _, _, rfl⟩, by kernel_rfl⟩
def t58 : TI := ⟨.fn, 1, .nilFunc, 8⟩
theorem ok58 : TI.ok Tryz.prog 58 t58 := ⟨⟨_, Tryz.underlying58, _, _, _, rfl⟩, by kernel_rfl⟩
def t59 : TI := ⟨.fn, 1, .nilFunc, 8⟩
theorem ok59 : TI.ok Tryz.prog 59 t59 := ⟨⟨_, Tryz.underlying59, _, _, _, rfl⟩, by kernel_rfl⟩
def t60 : TI := ⟨(.struct [(0, 5), (1, 9), (2, 3), (3, 44), (4, 4)]), 5, (.agg #[(.int .u8 0), (.string ⟨#[]⟩), (.int .i64 0), (.slice none 0 0), (.bool false)]), 64⟩
theorem ok60 : TI.ok Tryz.prog 60 t60 := ⟨⟨_, Tryz.underlying60, _, rfl, rfl⟩, by kernel_rfl⟩
def t61 : TI := ⟨(.struct [(0, 5), (1, 9), (2, 3), (3, 44), (4, 4)]), 5, (.agg #[(.int .u8 0), (.string ⟨#[]⟩), (.int .i64 0), (.slice none 0 0), (.bool false)]), 64⟩
theorem ok61 : TI.ok Tryz.prog 61 t61 := ⟨⟨_, Tryz.underlying61, _, rfl, rfl⟩, by kernel_rfl⟩
def t62 : TI := ⟨.fn, 1, .nilFunc, 8⟩
theorem ok62 : TI.ok Tryz.prog 62 t62 := ⟨⟨_, Tryz.underlying62, _, _, _, rfl⟩, by kernel_rfl⟩
def t63 : TI := ⟨.fn, 1, .nilFunc, 8⟩
theorem ok63 : TI.ok Tryz.prog 63 t63 := ⟨⟨_, Tryz.underlying63, _, _, _, rfl⟩, by kernel_rfl⟩
def t64 : TI := ⟨.fn, 1, .nilFunc, 8⟩
theorem ok64 : TI.ok Tryz.prog 64 t64 := ⟨⟨_, Tryz.underlying64, _, _, _, rfl⟩, by kernel_rfl⟩
def t65 : TI := ⟨.fn, 1, .nilFunc, 8⟩
theorem ok65 : TI.ok Tryz.prog 65 t65 := ⟨⟨_, Tryz.underlying65, _, _, _, rfl⟩, by kernel_rfl⟩
def t66 : TI := ⟨(.map 9 65), 1, (.map none), 8⟩
theorem ok66 : TI.ok Tryz.prog 66 t66 := ⟨⟨_, Tryz.underlying66, rfl⟩, by kernel_rfl⟩
def t67 : TI := ⟨.fn, 1, .nilFunc, 8⟩
theorem ok67 : TI.ok Tryz.prog 67 t67 := ⟨⟨_, Tryz.underlying67, _, _, _, rfl⟩, by kernel_rfl⟩
def t68 : TI := ⟨(.struct [(0, 37)]), 35, (.agg #[(.int .u64 0), (.string ⟨#[]⟩), (.string ⟨#[]⟩), (.int .i64 0), (.int .i64 0), (.int .u8 0), (.int .u8 0), (.int .u8 0), (.int .u8 0), (.int .u8 0), (.int .u8 0), (.int .u8 0), (.int .u8 0), (.int .u8 0), (.int .u8 0), (.int .u8 0), (.int .u8 0), (.int .u8 0), (.int .u8 0), (.int .u8 0), (.int .u8 0), (.int .i64 0), (.bool false), (.bool false), (.slice none 0 0), (.slice none 0 0), (.slice none 0 0), (.string ⟨#[]⟩), (.string ⟨#[]⟩), (.string ⟨#[]⟩), (.string ⟨#[]⟩), (.string ⟨#[]⟩), (.int .i64 0), (.slice none 0 0), (.slice none 0 0)]), 296⟩
theorem ok68 : TI.ok Tryz.prog 68 t68 := ⟨⟨_, Tryz.underlying68, _, rfl, rfl⟩, by kernel_rfl⟩
def t69 : TI := ⟨(.struct [(0, 37)]), 35, (.agg #[(.int .u64 0), (.string ⟨#[]⟩), (.string ⟨#[]⟩), (.int .i64 0), (.int .i64 0), (.int .u8 0), (.int .u8 0), (.int .u8 0), (.int .u8 0), (.int .u8 0), (.int .u8 0), (.int .u8 0), (.int .u8 0), (.int .u8 0), (.int .u8 0), (.int .u8 0), (.int .u8 0), (.int .u8 0), (.int .u8 0), (.int .u8 0), (.int .u8 0), (.int .i64 0), (.bool false), (.bool false), (.slice none 0 0), (.slice none 0 0), (.slice none 0 0), (.string ⟨#[]⟩), (.string ⟨#[]⟩), (.string ⟨#[]⟩), (.string ⟨#[]⟩), (.string ⟨#[]⟩), (.int .i64 0), (.slice none 0 0), (.slice none 0 0)]), 296⟩
theorem ok69 : TI.ok Tryz.prog 69 t69 := ⟨⟨_, Tryz.underlying69, _, rfl, rfl⟩, by kernel_rfl⟩
def t70 : TI := ⟨.fn, 1, .nilFunc, 8⟩
theorem ok70 : TI.ok Tryz.prog 70 t70 := ⟨⟨_, Tryz.underlying70, _, _, _, rfl⟩, by kernel_rfl⟩
def t71 : TI := ⟨.fn, 1, .nilFunc, 8⟩
theorem ok71 : TI.ok Tryz.prog 71 t71 := ⟨⟨_, Tryz.underlying71, _, _, _, rfl⟩, by kernel_rfl⟩
def t72 : TI := ⟨.fn, 1, .nilFunc, 8⟩
theorem ok72 : TI.ok Tryz.prog 72 t72 := ⟨⟨_, Tryz.underlying72, _, _, _, rfl⟩, by kernel_rfl⟩
def t73 : TI := ⟨(.int .u32), 1, (.int .u32 0), 4⟩
theorem ok73 : TI.ok Tryz.prog 73 t73 := ⟨⟨_, Tryz.underlying73, rfl⟩, by kernel_rfl⟩
def t74 : TI := ⟨(.struct [(0, 73), (1, 73)]), 2, (.agg #[(.int .u32 0), (.int .u32 0)]), 8⟩
theorem ok74 : TI.ok Tryz.prog 74 t74 := ⟨⟨_, Tryz.underlying74, _, rfl, rfl⟩, by kernel_rfl⟩
def t75 : TI := ⟨(.struct [(0, 73), (1, 73)]), 2, (.agg #[(.int .u32 0), (.int .u32 0)]), 8⟩
theorem ok75 : TI.ok Tryz.prog 75 t75 := ⟨⟨_, Tryz.underlying75, _, rfl, rfl⟩, by kernel_rfl⟩
def t76 : TI := ⟨(.slice 29), 1, (.slice none 0 0), 24⟩
theorem ok76 : TI.ok Tryz.prog 76 t76 := ⟨⟨_, Tryz.underlying76, rfl⟩, by kernel_rfl⟩
def t77 : TI := ⟨(.slice 5), 1, (.slice none 0 0), 24⟩
theorem ok77 : TI.ok Tryz.prog 77 t77 := ⟨⟨_, Tryz.underlying77, rfl⟩, by kernel_rfl⟩
def t79 : TI := ⟨.fn, 1, .nilFunc, 8⟩
theorem ok79 : TI.ok Tryz.prog 79 t79 := ⟨⟨_, Tryz.underlying79, _, _, _, rfl⟩, by kernel_rfl⟩
def t80 : TI := ⟨(.struct [(0, 22), (1, 22)]), 2, (.agg #[(.int .u64 0), (.int .u64 0)]), 16⟩
theorem ok80 : TI.ok Tryz.prog 80 t80 := ⟨⟨_, Tryz.underlying80, _, rfl, rfl⟩, by kernel_rfl⟩
def t81 : TI := ⟨(.struct [(0, 22), (1, 22)]), 2, (.agg #[(.int .u64 0), (.int .u64 0)]), 16⟩
theorem ok81 : TI.ok Tryz.prog 81 t81 := ⟨⟨_, Tryz.underlying81, _, rfl, rfl⟩, by kernel_rfl⟩
def t82 : TI := ⟨(.struct [(0, 81), (2, 81)]), 4, (.agg #[(.int .u64 0), (.int .u64 0), (.int .u64 0), (.int .u64 0)]), 32⟩
theorem ok82 : TI.ok Tryz.prog 82 t82 := ⟨⟨_, Tryz.underlying82, _, rfl, rfl⟩, by kernel_rfl⟩
def t83 : TI := ⟨(.struct [(0, 81), (2, 81)]), 4, (.agg #[(.int .u64 0), (.int .u64 0), (.int .u64 0), (.int .u64 0)]), 32⟩
theorem ok83 : TI.ok Tryz.prog 83 t83 := ⟨⟨_, Tryz.underlying83, _, rfl, rfl⟩, by kernel_rfl⟩
def t84 : TI := ⟨.fn, 1, .nilFunc, 8⟩
theorem ok84 : TI.ok Tryz.prog 84 t84 := ⟨⟨_, Tryz.underlying84, _, _, _, rfl⟩, by kernel_rfl⟩
def t85 : TI := ⟨(.slice 83), 1, (.slice none 0 0), 24⟩
theorem ok85 : TI.ok Tryz.prog 85 t85 := ⟨⟨_, Tryz.underlying85, rfl⟩, by kernel_rfl⟩
def t86 : TI := ⟨(.array 3 85), 3, (.agg #[(.slice none 0 0), (.slice none 0 0), (.slice none 0 0)]), 72⟩
theorem ok86 : TI.ok Tryz.prog 86 t86 := ⟨⟨_, Tryz.underlying86, rfl⟩, by kernel_rfl⟩
def t87 : TI := ⟨.fn, 1, .nilFunc, 8⟩
theorem ok87 : TI.ok Tryz.prog 87 t87 := ⟨⟨_, Tryz.underlying87, _, _, _, rfl⟩, by kernel_rfl⟩
def t88 : TI := ⟨.fn, 1, .nilFunc, 8⟩
theorem ok88 : TI.ok Tryz.prog 88 t88 := ⟨⟨_, Tryz.underlying88, _, _, _, rfl⟩, by kernel_rfl⟩
def t89 : TI := ⟨.fn, 1, .nilFunc, 8⟩
theorem ok89 : TI.ok Tryz.prog 89 t89 := ⟨⟨_, Tryz.underlying89, _, _, _, rfl⟩, by kernel_rfl⟩
def t90 : TI := ⟨.fn, 1, .nilFunc, 8⟩
theorem ok90 : TI.ok Tryz.prog 90 t90 := ⟨⟨_, Tryz.underlying90, _, _, _, rfl⟩, by kernel_rfl⟩
def t92 : TI := ⟨.fn, 1, .nilFunc, 8⟩
theorem ok92 : TI.ok Tryz.prog 92 t92 := ⟨⟨_, Tryz.underlying92, _, _, _, rfl⟩, by kernel_rfl⟩
def t93 : TI := ⟨.fn, 1, .nilFunc, 8⟩
theorem ok93 : TI.ok Tryz.prog 93 t93 := ⟨⟨_, Tryz.underlying93, _, _, _, rfl⟩, by kernel_rfl⟩
def t94 : TI := ⟨.fn, 1, .nilFunc, 8⟩
theorem ok94 : TI.ok Tryz.prog 94 t94 := ⟨⟨_, Tryz.underlying94, _, _, _, rfl⟩, by kernel_rfl⟩
def t95 : TI := ⟨.fn, 1, .nilFunc, 8⟩
theorem ok95 : TI.ok Tryz.prog 95 t95 := ⟨⟨_, Tryz.underlying95, _, _, _, rfl⟩, by kernel_rfl⟩
def t97 : TI := ⟨.fn, 1, .nilFunc, 8⟩
theorem ok97 : TI.ok Tryz.prog 97 t97 := ⟨⟨_, Tryz.underlying97, _, _, _, rfl⟩, by kernel_rfl⟩
def t98 : TI := ⟨.fn, 1, .nilFunc, 8⟩
theorem ok98 : TI.ok Tryz.prog 98 t98 := ⟨⟨_, Tryz.underlying98, _, _, _, rfl⟩, by kernel_rfl⟩
def t100 : TI := ⟨.fn, 1, .nilFunc, 8⟩
theorem ok100 : TI.ok Tryz.prog 100 t100 := ⟨⟨_, Tryz.underlying100, _, _, _, rfl⟩, by kernel_rfl⟩
def t101 : TI := ⟨.fn, 1, .nilFunc, 8⟩
theorem ok101 : TI.ok Tryz.prog 101 t101 := ⟨⟨_, Tryz.underlying101, _, _, _, rfl⟩, by kernel_rfl⟩
def t103 : TI := ⟨.fn, 1, .nilFunc, 8⟩
theorem ok103 : TI.ok Tryz.prog 103 t103 := ⟨⟨_, Tryz.underlying103, _, _, _, rfl⟩, by kernel_rfl⟩
def t104 : TI := ⟨.fn, 1, .nilFunc, 8⟩
theorem ok104 : TI.ok Tryz.prog 104 t104 := ⟨⟨_, Tryz.underlying104, _, _, _, rfl⟩, by kernel_rfl⟩
def t105 : TI := ⟨.fn, 1, .nilFunc, 8⟩
theorem ok105 : TI.ok Tryz.prog 105 t105 := ⟨⟨_, Tryz.underlying105, _, _, _, rfl⟩, by kernel_rfl⟩
def t106 : TI := ⟨.fn, 1, .nilFunc, 8⟩
theorem ok106 : TI.ok Tryz.prog 106 t106 := ⟨⟨_, Tryz.underlying106, _, _, _, rfl⟩, by kernel_rfl⟩
def t107 : TI := ⟨.fn, 1, .nilFunc, 8⟩
theorem ok107 : TI.ok Tryz.prog 107 t107 := ⟨⟨_, Tryz.underlying107, _, _, _, rfl⟩, by kernel_rfl⟩
def t108 : TI := ⟨.fn, 1, .nilFunc, 8⟩
theorem ok108 : TI.ok Tryz.prog 108 t108 := ⟨⟨_, Tryz.underlying108, _, _, _, rfl⟩, by kernel_rfl⟩
def t109 : TI := ⟨.fn, 1, .nilFunc, 8⟩
theorem ok109 : TI.ok Tryz.prog 109 t109 := ⟨⟨_, Tryz.underlying109, _, _, _, rfl⟩, by kernel_rfl⟩
def t111 : TI := ⟨.fn, 1, .nilFunc, 8⟩
theorem ok111 : TI.ok Tryz.prog 111 t111 := ⟨⟨_, Tryz.underlying111, _, _, _, rfl⟩, by kernel_rfl⟩
def t112 : TI := ⟨.fn, 1, .nilFunc, 8⟩
theorem ok112 : TI.ok Tryz.prog 112 t112 := ⟨⟨_, Tryz.underlying112, _, _, _, rfl⟩, by kernel_rfl⟩
def t114 : TI := ⟨(.map 9 5), 1, (.map none), 8⟩
theorem ok114 : TI.ok Tryz.prog 114 t114 := ⟨⟨_, Tryz.underlying114, rfl⟩, by kernel_rfl⟩
def t115 : TI := ⟨.iface, 1, .nilIface, 16⟩
theorem ok115 : TI.ok Tryz.prog 115 t115 := ⟨⟨_, Tryz.underlying115, _, rfl⟩, by kernel_rfl⟩
def t116 : TI := ⟨.iface, 1, .nilIface, 16⟩
theorem ok116 : TI.ok Tryz.prog 116 t116 := ⟨⟨_, Tryz.underlying116, _, rfl⟩, by kernel_rfl⟩
def t118 : TI := ⟨.fn, 1, .nilFunc, 8⟩
theorem ok118 : TI.ok Tryz.prog 118 t118 := ⟨⟨_, Tryz.underlying118, _, _, _, rfl⟩, by kernel_rfl⟩
def t119 : TI := ⟨.fn, 1, .nilFunc, 8⟩
theorem ok119 : TI.ok Tryz.prog 119 t119 := ⟨⟨_, Tryz.underlying119, _, _, _, rfl⟩, by kernel_rfl⟩
def t120 : TI := ⟨.fn, 1, .nilFunc, 8⟩
theorem ok120 : TI.ok Tryz.prog 120 t120 := ⟨⟨_, Tryz.underlying120, _, _, _, rfl⟩, by kernel_rfl⟩
def t121 : TI := ⟨.fn, 1, .nilFunc, 8⟩
theorem ok121 : TI.ok Tryz.prog 121 t121 := ⟨⟨_, Tryz.underlying121, _, _, _, rfl⟩, by kernel_rfl⟩
def t122 : TI := ⟨.fn, 1, .nilFunc, 8⟩
theorem ok122 : TI.ok Tryz.prog 122 t122 := ⟨⟨_, Tryz.underlying122, _, _, _, rfl⟩, by kernel_rfl⟩
def t123 : TI := ⟨(.slice 3), 1, (.slice none 0 0), 24⟩
theorem ok123 : TI.ok Tryz.prog 123 t123 := ⟨⟨_, Tryz.underlying123, rfl⟩, by kernel_rfl⟩
def t124 : TI := ⟨.fn, 1, .nilFunc, 8⟩
theorem ok124 : TI.ok Tryz.prog 124 t124 := ⟨⟨_, Tryz.underlying124, _, _, _, rfl⟩, by kernel_rfl⟩
def t125 : TI := ⟨.fn, 1, .nilFunc, 8⟩
theorem ok125 : TI.ok Tryz.prog 125 t125 := ⟨⟨_, Tryz.underlying125, _, _, _, rfl⟩, by kernel_rfl⟩
def t126 : TI := ⟨.fn, 1, .nilFunc, 8⟩
theorem ok126 : TI.ok Tryz.prog 126 t126 := ⟨⟨_, Tryz.underlying126, _, _, _, rfl⟩, by kernel_rfl⟩
def t127 : TI := ⟨.fn, 1, .nilFunc, 8⟩
theorem ok127 : TI.ok Tryz.prog 127 t127 := ⟨⟨_, Tryz.underlying127, _, _, _, rfl⟩, by kernel_rfl⟩
def t128 : TI := ⟨.fn, 1, .nilFunc, 8⟩
theorem ok128 : TI.ok Tryz.prog 128 t128 := ⟨⟨_, Tryz.underlying128, _, _, _, rfl⟩, by kernel_rfl⟩
def t129 : TI := ⟨.fn, 1, .nilFunc, 8⟩
theorem ok129 : TI.ok Tryz.prog 129 t129 := ⟨⟨_, Tryz.underlying129, _, _, _, rfl⟩, by kernel_rfl⟩
def t131 : TI := ⟨.fn, 1, .nilFunc, 8⟩
theorem ok131 : TI.ok Tryz.prog 131 t131 := ⟨⟨_, Tryz.underlying131, _, _, _, rfl⟩, by kernel_rfl⟩
def t132 : TI := ⟨.fn, 1, .nilFunc, 8⟩
theorem ok132 : TI.ok Tryz.prog 132 t132 := ⟨⟨_, Tryz.underlying132, _, _, _, rfl⟩, by kernel_rfl⟩
def t133 : TI := ⟨.fn, 1, .nilFunc, 8⟩
theorem ok133 : TI.ok Tryz.prog 133 t133 := ⟨⟨_, Tryz.underlying133, _, _, _, rfl⟩, by kernel_rfl⟩
def t134 : TI := ⟨.fn, 1, .nilFunc, 8⟩
theorem ok134 : TI.ok Tryz.prog 134 t134 := ⟨⟨_, Tryz.underlying134, _, _, _, rfl⟩, by kernel_rfl⟩
def t135 : TI := ⟨.fn, 1, .nilFunc, 8⟩
theorem ok135 : TI.ok Tryz.prog 135 t135 := ⟨⟨_, Tryz.underlying135, _, _, _, rfl⟩, by kernel_rfl⟩
def t136 : TI := ⟨.fn, 1, .nilFunc, 8⟩
theorem ok136 : TI.ok Tryz.prog 136 t136 := ⟨⟨_, Tryz.underlying136, _, _, _, rfl⟩, by kernel_rfl⟩
def t137 : TI := ⟨.fn, 1, .nilFunc, 8⟩
theorem ok137 : TI.ok Tryz.prog 137 t137 := ⟨⟨_, Tryz.underlying137, _, _, _, rfl⟩, by kernel_rfl⟩
def t138 : TI := ⟨.fn, 1, .nilFunc, 8⟩
theorem ok138 : TI.ok Tryz.prog 138 t138 := ⟨⟨_, Tryz.underlying138, _, _, _, rfl⟩, by kernel_rfl⟩
def t140 : TI := ⟨.fn, 1, .nilFunc, 8⟩
theorem ok140 : TI.ok Tryz.prog 140 t140 := ⟨⟨_, Tryz.underlying140, _, _, _, rfl⟩, by kernel_rfl⟩
def t141 : TI := ⟨.fn, 1, .nilFunc, 8⟩
theorem ok141 : TI.ok Tryz.prog 141 t141 := ⟨⟨_, Tryz.underlying141, _, _, _, rfl⟩, by kernel_rfl⟩
def t142 : TI := ⟨.fn, 1, .nilFunc, 8⟩
theorem ok142 : TI.ok Tryz.prog 142 t142 := ⟨⟨_, Tryz.underlying142, _, _, _, rfl⟩, by kernel_rfl⟩
def t143 : TI := ⟨.fn, 1, .nilFunc, 8⟩
theorem ok143 : TI.ok Tryz.prog 143 t143 := ⟨⟨_, Tryz.underlying143, _, _, _, rfl⟩, by kernel_rfl⟩
def t145 : TI := ⟨.fn, 1, .nilFunc, 8⟩
theorem ok145 : TI.ok Tryz.prog 145 t145 := ⟨⟨_, Tryz.underlying145, _, _, _, rfl⟩, by kernel_rfl⟩
def t146 : TI := ⟨.fn, 1, .nilFunc, 8⟩
theorem ok146 : TI.ok Tryz.prog 146 t146 := ⟨⟨_, Tryz.underlying146, _, _, _, rfl⟩, by kernel_rfl⟩
def t147 : TI := ⟨.fn, 1, .nilFunc, 8⟩
theorem ok147 : TI.ok Tryz.prog 147 t147 := ⟨⟨_, Tryz.underlying147, _, _, _, rfl⟩, by kernel_rfl⟩
def t148 : TI := ⟨(.int .i64), 1, (.int .i64 0), 8⟩
theorem ok148 : TI.ok Tryz.prog 148 t148 := ⟨⟨_, Tryz.underlying148, rfl⟩, by kernel_rfl⟩
def t150 : TI := ⟨.fn, 1, .nilFunc, 8⟩
theorem ok150 : TI.ok Tryz.prog 150 t150 := ⟨⟨_, Tryz.underlying150, _, _, _, rfl⟩, by kernel_rfl⟩
def t151 : TI := ⟨(.ptr 173), 1, (.pointer none), 8⟩
theorem ok151 : TI.ok Tryz.prog 151 t151 := ⟨⟨_, Tryz.underlying151, rfl⟩, by kernel_rfl⟩
def t152 : TI := ⟨.fn, 1, .nilFunc, 8⟩
theorem ok152 : TI.ok Tryz.prog 152 t152 := ⟨⟨_, Tryz.underlying152, _, _, _, rfl⟩, by kernel_rfl⟩
def t153 : TI := ⟨.fn, 1, .nilFunc, 8⟩
theorem ok153 : TI.ok Tryz.prog 153 t153 := ⟨⟨_, Tryz.underlying153, _, _, _, rfl⟩, by kernel_rfl⟩
def t154 : TI := ⟨.fn, 1, .nilFunc, 8⟩
theorem ok154 : TI.ok Tryz.prog 154 t154 := ⟨⟨_, Tryz.underlying154, _, _, _, rfl⟩, by kernel_rfl⟩
def t155 : TI := ⟨.fn, 1, .nilFunc, 8⟩
theorem ok155 : TI.ok Tryz.prog 155 t155 := ⟨⟨_, Tryz.underlying155, _, _, _, rfl⟩, by kernel_rfl⟩
def t156 : TI := ⟨(.array 256 5), 256, (.agg (Array.replicate 256 (.int .u8 0))), 256⟩
theorem ok156 : TI.ok Tryz.prog 156 t156 := ⟨⟨_, Tryz.underlying156, rfl⟩, by kernel_rfl⟩
def t157 : TI := ⟨.fn, 1, .nilFunc, 8⟩
theorem ok157 : TI.ok Tryz.prog 157 t157 := ⟨⟨_, Tryz.underlying157, _, _, _, rfl⟩, by kernel_rfl⟩
def t158 : TI := ⟨(.ptr 160), 1, (.pointer none), 8⟩
theorem ok158 : TI.ok Tryz.prog 158 t158 := ⟨⟨_, Tryz.underlying158, rfl⟩, by kernel_rfl⟩
def t159 : TI := ⟨(.struct [(0, 158), (1, 77)]), 2, (.agg #[(.pointer none), (.slice none 0 0)]), 32⟩
theorem ok159 : TI.ok Tryz.prog 159 t159 := ⟨⟨_, Tryz.underlying159, _, rfl, rfl⟩, by kernel_rfl⟩
def t160 : TI := ⟨(.struct [(0, 158), (1, 77)]), 2, (.agg #[(.pointer none), (.slice none 0 0)]), 32⟩
theorem ok160 : TI.ok Tryz.prog 160 t160 := ⟨⟨_, Tryz.underlying160, _, rfl, rfl⟩, by kernel_rfl⟩
def t161 : TI := ⟨.fn, 1, .nilFunc, 8⟩
theorem ok161 : TI.ok Tryz.prog 161 t161 := ⟨⟨_, Tryz.underlying161, _, _, _, rfl⟩, by kernel_rfl⟩
def t162 : TI := ⟨.fn, 1, .nilFunc, 8⟩
theorem ok162 : TI.ok Tryz.prog 162 t162 := ⟨⟨_, Tryz.underlying162, _, _, _, rfl⟩, by kernel_rfl⟩
def t163 : TI := ⟨.fn, 1, .nilFunc, 8⟩
theorem ok163 : TI.ok Tryz.prog 163 t163 := ⟨⟨_, Tryz.underlying163, _, _, _, rfl⟩, by kernel_rfl⟩
def t165 : TI := ⟨.fn, 1, .nilFunc, 8⟩
theorem ok165 : TI.ok Tryz.prog 165 t165 := ⟨⟨_, Tryz.underlying165, _, _, _, rfl⟩, by kernel_rfl⟩
def t166 : TI := ⟨.fn, 1, .nilFunc, 8⟩
theorem ok166 : TI.ok Tryz.prog 166 t166 := ⟨⟨_, Tryz.underlying166, _, _, _, rfl⟩, by kernel_rfl⟩
def t167 : TI := ⟨.fn, 1, .nilFunc, 8⟩
theorem ok167 : TI.ok Tryz.prog 167 t167 := ⟨⟨_, Tryz.underlying167, _, _, _, rfl⟩, by kernel_rfl⟩
def t168 : TI := ⟨(.int .u64), 1, (.int .u64 0), 8⟩
theorem ok168 : TI.ok Tryz.prog 168 t168 := ⟨⟨_, Tryz.underlying168, rfl⟩, by kernel_rfl⟩
def t170 : TI := ⟨.fn, 1, .nilFunc, 8⟩
theorem ok170 : TI.ok Tryz.prog 170 t170 := ⟨⟨_, Tryz.underlying170, _, _, _, rfl⟩, by kernel_rfl⟩
def t171 : TI := ⟨.fn, 1, .nilFunc, 8⟩
theorem ok171 : TI.ok Tryz.prog 171 t171 := ⟨⟨_, Tryz.underlying171, _, _, _, rfl⟩, by kernel_rfl⟩
def t172 : TI := ⟨(.struct [(0, 9), (1, 9), (2, 116)]), 3, (.agg #[(.string ⟨#[]⟩), (.string ⟨#[]⟩), .nilIface]), 48⟩
theorem ok172 : TI.ok Tryz.prog 172 t172 := ⟨⟨_, Tryz.underlying172, _, rfl, rfl⟩, by kernel_rfl⟩
def t173 : TI := ⟨(.struct [(0, 9), (1, 9), (2, 116)]), 3, (.agg #[(.string ⟨#[]⟩), (.string ⟨#[]⟩), .nilIface]), 48⟩
theorem ok173 : TI.ok Tryz.prog 173 t173 := ⟨⟨_, Tryz.underlying173, _, rfl, rfl⟩, by kernel_rfl⟩
def t174 : TI := ⟨.fn, 1, .nilFunc, 8⟩
theorem ok174 : TI.ok Tryz.prog 174 t174 := ⟨⟨_, Tryz.underlying174, _, _, _, rfl⟩, by kernel_rfl⟩
def t175 : TI := ⟨.fn, 1, .nilFunc, 8⟩
theorem ok175 : TI.ok Tryz.prog 175 t175 := ⟨⟨_, Tryz.underlying175, _, _, _, rfl⟩, by kernel_rfl⟩
def t176 : TI := ⟨.fn, 1, .nilFunc, 8⟩
theorem ok176 : TI.ok Tryz.prog 176 t176 := ⟨⟨_, Tryz.underlying176, _, _, _, rfl⟩, by kernel_rfl⟩
def t177 : TI := ⟨(.ptr 5), 1, (.pointer none), 8⟩
theorem ok177 : TI.ok Tryz.prog 177 t177 := ⟨⟨_, Tryz.underlying177, rfl⟩, by kernel_rfl⟩
def t178 : TI := ⟨.fn, 1, .nilFunc, 8⟩
theorem ok178 : TI.ok Tryz.prog 178 t178 := ⟨⟨_, Tryz.underlying178, _, _, _, rfl⟩, by kernel_rfl⟩
def t180 : TI := ⟨.fn, 1, .nilFunc, 8⟩
theorem ok180 : TI.ok Tryz.prog 180 t180 := ⟨⟨_, Tryz.underlying180, _, _, _, rfl⟩, by kernel_rfl⟩
def t181 : TI := ⟨.fn, 1, .nilFunc, 8⟩
theorem ok181 : TI.ok Tryz.prog 181 t181 := ⟨⟨_, Tryz.underlying181, _, _, _, rfl⟩, by kernel_rfl⟩
def t182 : TI := ⟨(.ptr 184), 1, (.pointer none), 8⟩
theorem ok182 : TI.ok Tryz.prog 182 t182 := ⟨⟨_, Tryz.underlying182, rfl⟩, by kernel_rfl⟩
def t183 : TI := ⟨(.struct [(0, 9)]), 1, (.agg #[(.string ⟨#[]⟩)]), 16⟩
theorem ok183 : TI.ok Tryz.prog 183 t183 := ⟨⟨_, Tryz.underlying183, _, rfl, rfl⟩, by kernel_rfl⟩
def t184 : TI := ⟨(.struct [(0, 9)]), 1, (.agg #[(.string ⟨#[]⟩)]), 16⟩
theorem ok184 : TI.ok Tryz.prog 184 t184 := ⟨⟨_, Tryz.underlying184, _, rfl, rfl⟩, by kernel_rfl⟩
def t185 : TI := ⟨.fn, 1, .nilFunc, 8⟩
theorem ok185 : TI.ok Tryz.prog 185 t185 := ⟨⟨_, Tryz.underlying185, _, _, _, rfl⟩, by kernel_rfl⟩
def t186 : TI := ⟨(.array 24 5), 24, (.agg (Array.replicate 24 (.int .u8 0))), 24⟩
theorem ok186 : TI.ok Tryz.prog 186 t186 := ⟨⟨_, Tryz.underlying186, rfl⟩, by kernel_rfl⟩
def t187 : TI := ⟨.fn, 1, .nilFunc, 8⟩
theorem ok187 : TI.ok Tryz.prog 187 t187 := ⟨⟨_, Tryz.underlying187, _, _, _, rfl⟩, by kernel_rfl⟩
def t188 : TI := ⟨.fn, 1, .nilFunc, 8⟩
theorem ok188 : TI.ok Tryz.prog 188 t188 := ⟨⟨_, Tryz.underlying188, _, _, _, rfl⟩, by kernel_rfl⟩
def t190 : TI := ⟨.fn, 1, .nilFunc, 8⟩
theorem ok190 : TI.ok Tryz.prog 190 t190 := ⟨⟨_, Tryz.underlying190, _, _, _, rfl⟩, by kernel_rfl⟩
def t192 : TI := ⟨.fn, 1, .nilFunc, 8⟩
theorem ok192 : TI.ok Tryz.prog 192 t192 := ⟨⟨_, Tryz.underlying192, _, _, _, rfl⟩, by kernel_rfl⟩
def t193 : TI := ⟨.fn, 1, .nilFunc, 8⟩
theorem ok193 : TI.ok Tryz.prog 193 t193 := ⟨⟨_, Tryz.underlying193, _, _, _, rfl⟩, by kernel_rfl⟩
def t194 : TI := ⟨.fn, 1, .nilFunc, 8⟩
theorem ok194 : TI.ok Tryz.prog 194 t194 := ⟨⟨_, Tryz.underlying194, _, _, _, rfl⟩, by kernel_rfl⟩
def t196 : TI := ⟨.fn, 1, .nilFunc, 8⟩
theorem ok196 : TI.ok Tryz.prog 196 t196 := ⟨⟨_, Tryz.underlying196, _, _, _, rfl⟩, by kernel_rfl⟩
def t197 : TI := ⟨.fn, 1, .nilFunc, 8⟩
theorem ok197 : TI.ok Tryz.prog 197 t197 := ⟨⟨_, Tryz.underlying197, _, _, _, rfl⟩, by kernel_rfl⟩
def t198 : TI := ⟨(.array 20 22), 20, (.agg (Array.replicate 20 (.int .u64 0))), 160⟩
theorem ok198 : TI.ok Tryz.prog 198 t198 := ⟨⟨_, Tryz.underlying198, rfl⟩, by kernel_rfl⟩
def t199 : TI := ⟨(.array 65 5), 65, (.agg (Array.replicate 65 (.int .u8 0))), 65⟩
theorem ok199 : TI.ok Tryz.prog 199 t199 := ⟨⟨_, Tryz.underlying199, rfl⟩, by kernel_rfl⟩
def t200 : TI := ⟨.fn, 1, .nilFunc, 8⟩
theorem ok200 : TI.ok Tryz.prog 200 t200 := ⟨⟨_, Tryz.underlying200, _, _, _, rfl⟩, by kernel_rfl⟩
def t201 : TI := ⟨.fn, 1, .nilFunc, 8⟩
theorem ok201 : TI.ok Tryz.prog 201 t201 := ⟨⟨_, Tryz.underlying201, _, _, _, rfl⟩, by kernel_rfl⟩
def t202 : TI := ⟨(.struct [(0, 5), (1, 5)]), 2, (.agg #[(.int .u8 0), (.int .u8 0)]), 2⟩
theorem ok202 : TI.ok Tryz.prog 202 t202 := ⟨⟨_, Tryz.underlying202, _, rfl, rfl⟩, by kernel_rfl⟩
def t203 : TI := ⟨(.struct [(0, 5), (1, 5)]), 2, (.agg #[(.int .u8 0), (.int .u8 0)]), 2⟩
theorem ok203 : TI.ok Tryz.prog 203 t203 := ⟨⟨_, Tryz.underlying203, _, rfl, rfl⟩, by kernel_rfl⟩
def t204 : TI := ⟨(.array 16 203), 32, (.agg (Array.replicate 32 (.int .u8 0))), 32⟩
theorem ok204 : TI.ok Tryz.prog 204 t204 := ⟨⟨_, Tryz.underlying204, rfl⟩, by kernel_rfl⟩
def t205 : TI := ⟨(.array 32 5), 32, (.agg (Array.replicate 32 (.int .u8 0))), 32⟩
theorem ok205 : TI.ok Tryz.prog 205 t205 := ⟨⟨_, Tryz.underlying205, rfl⟩, by kernel_rfl⟩
def t206 : TI := ⟨(.array 64 5), 64, (.agg (Array.replicate 64 (.int .u8 0))), 64⟩
theorem ok206 : TI.ok Tryz.prog 206 t206 := ⟨⟨_, Tryz.underlying206, rfl⟩, by kernel_rfl⟩
def t212 : TI := ⟨.fn, 1, .nilFunc, 8⟩
theorem ok212 : TI.ok Tryz.prog 212 t212 := ⟨⟨_, Tryz.underlying212, _, _, _, rfl⟩, by kernel_rfl⟩
def t215 : TI := ⟨.fn, 1, .nilFunc, 8⟩
theorem ok215 : TI.ok Tryz.prog 215 t215 := ⟨⟨_, Tryz.underlying215, _, _, _, rfl⟩, by kernel_rfl⟩
def T : List (Nat × TI) := [(1, t1), (2, t2), (3, t3), (4, t4), (5, t5), (9, t9), (12, t12), (13, t13), (20, t20), (21, t21), (22, t22), (23, t23), (24, t24), (25, t25), (26, t26), (27, t27), (28, t28), (29, t29), (30, t30), (31, t31), (32, t32), (33, t33), (34, t34), (35, t35), (36, t36), (37, t37), (38, t38), (39, t39), (40, t40), (41, t41), (42, t42), (43, t43), (44, t44), (45, t45), (46, t46), (47, t47), (48, t48), (49, t49), (50, t50), (51, t51), (52, t52), (53, t53), (54, t54), (55, t55), (56, t56), (57, t57), (58, t58), (59, t59), (60, t60), (61, t61), (62, t62), (63, t63), (64, t64), (65, t65), (66, t66), (67, t67), (68, t68), (69, t69), (70, t70), (71, t71), (72, t72), (73, t73), (74, t74), (75, t75), (76, t76), (77, t77), (79, t79), (80, t80), (81, t81), (82, t82), (83, t83), (84, t84), (85, t85), (86, t86), (87, t87), (88, t88), (89, t89), (90, t90), (92, t92), (93, t93), (94, t94), (95, t95), (97, t97), (98, t98), (100, t100), (101, t101), (103, t103), (104, t104), (105, t105), (106, t106), (107, t107), (108, t108), (109, t109), (111, t111), (112, t112), (114, t114), (115, t115), (116, t116), (118, t118), (119, t119), (120, t120), (121, t121), (122, t122), (123, t123), (124, t124), (125, t125), (126, t126), (127, t127), (128, t128), (129, t129), (131, t131), (132, t132), (133, t133), (134, t134), (135, t135), (136, t136), (137, t137), (138, t138), (140, t140), (141, t141), (142, t142), (143, t143), (145, t145), (146, t146), (147, t147), (148, t148), (150, t150), (151, t151), (152, t152), (153, t153), (154, t154), (155, t155), (156, t156), (157, t157), (158, t158), (159, t159), (160, t160), (161, t161), (162, t162), (163, t163), (165, t165), (166, t166), (167, t167), (168, t168), (170, t170), (171, t171), (172, t172), (173, t173), (174, t174), (175, t175), (176, t176), (177, t177), (178, t178), (180, t180), (181, t181), (182, t182), (183, t183), (184, t184), (185, t185), (186, t186), (187, t187), (188, t188), (190, t190), (192, t192), (193, t193), (194, t194), (196, t196), (197, t197), (198, t198), (199, t199), (200, t200), (201, t201), (202, t202), (203, t203), (204, t204), (205, t205), (206, t206), (212, t212), (215, t215)]
theorem okT : ∀ e ∈ T, TI.ok Tryz.prog e.1 e.2 :=
  List.forall_mem_cons.2 ⟨ok1, List.forall_mem_cons.2 ⟨ok2, List.forall_mem_cons.2 ⟨ok3, List.forall_mem_cons.2 ⟨ok4, List.forall_mem_cons.2 ⟨ok5, List.forall_mem_cons.2 ⟨ok9, List.forall_mem_cons.2 ⟨ok12, List.forall_mem_cons.2 ⟨ok13, List.forall_mem_cons.2 ⟨ok20, List.forall_mem_cons.2 ⟨ok21, List.forall_mem_cons.2 ⟨ok22, List.forall_mem_cons.2 ⟨ok23, List.forall_mem_cons.2 ⟨ok24, List.forall_mem_cons.2 ⟨ok25, List.forall_mem_cons.2 ⟨ok26, List.forall_mem_cons.2 ⟨ok27, List.forall_mem_cons.2 ⟨ok28, List.forall_mem_cons.2 ⟨ok29, List.forall_mem_cons.2 ⟨ok30, List.forall_mem_cons.2 ⟨ok31, List.forall_mem_cons.2 ⟨ok32, List.forall_mem_cons.2 ⟨ok33, List.forall_mem_cons.2 ⟨ok34, List.forall_mem_cons.2 ⟨ok35, List.forall_mem_cons.2 ⟨ok36, List.forall_mem_cons.2 ⟨ok37, List.forall_mem_cons.2 ⟨ok38, List.forall_mem_cons.2 ⟨ok39, List.forall_mem_cons.2 ⟨ok40, List.forall_mem_cons.2 ⟨ok41, List.forall_mem_cons.2 ⟨ok42, List.forall_mem_cons.2 ⟨ok43, List.forall_mem_cons.2 ⟨ok44, List.forall_mem_cons.2 ⟨ok45, List.forall_mem_cons.2 ⟨ok46, List.forall_mem_cons.2 ⟨ok47, List.forall_mem_cons.2 ⟨ok48, List.forall_mem_cons.2 ⟨ok49, List.forall_mem_cons.2 ⟨ok50, List.forall_mem_cons.2 ⟨ok51, List.forall_mem_cons.2 ⟨ok52, List.forall_mem_cons.2 ⟨ok53, List.forall_mem_cons.2 ⟨ok54, List.forall_mem_cons.2 ⟨ok55, List.forall_mem_cons.2 ⟨ok56, List.forall_mem_cons.2 ⟨ok57, List.forall_mem_cons.2 ⟨ok58, List.forall_mem_cons.2 ⟨ok59, List.forall_mem_cons.2 ⟨ok60, List.forall_mem_cons.2 ⟨ok61, List.forall_mem_cons.2 ⟨ok62, List.forall_mem_cons.2 ⟨ok63, List.forall_mem_cons.2 ⟨ok64, List.forall_mem_cons.2 ⟨ok65, List.forall_mem_cons.2 ⟨ok66, List.forall_mem_cons.2 ⟨ok67, List.forall_mem_cons.2 ⟨ok68, List.forall_mem_cons.2 ⟨ok69, List.forall_mem_cons.2 ⟨ok70, List.forall_mem_cons.2 ⟨ok71, List.forall_mem_cons.2 ⟨ok72, List.forall_mem_cons.2 ⟨ok73, List.forall_mem_cons.2 ⟨ok74, List.forall_mem_cons.2 ⟨ok75, List.forall_mem_cons.2 ⟨ok76, List.forall_mem_cons.2 ⟨ok77, List.forall_mem_cons.2 ⟨ok79, List.forall_mem_cons.2 ⟨ok80, List.forall_mem_cons.2 ⟨ok81, List.forall_mem_cons.2 ⟨ok82, List.forall_mem_cons.2 ⟨ok83, List.forall_mem_cons.2 ⟨ok84, List.forall_mem_cons.2 ⟨ok85, List.forall_mem_cons.2 ⟨ok86, List.forall_mem_cons.2 ⟨ok87, List.forall_mem_cons.2 ⟨ok88, List.forall_mem_cons.2 ⟨ok89, List.forall_mem_cons.2 ⟨ok90, List.forall_mem_cons.2 ⟨ok92, List.forall_mem_cons.2 ⟨ok93, List.forall_mem_cons.2 ⟨ok94, List.forall_mem_cons.2 ⟨ok95, List.forall_mem_cons.2 ⟨ok97, List.forall_mem_cons.2 ⟨ok98, List.forall_mem_cons.2 ⟨ok100, List.forall_mem_cons.2 ⟨ok101, List.forall_mem_cons.2 ⟨ok103, List.forall_mem_cons.2 ⟨ok104, List.forall_mem_cons.2 ⟨ok105, List.forall_mem_cons.2 ⟨ok106, List.forall_mem_cons.2 ⟨ok107, List.forall_mem_cons.2 ⟨ok108, List.forall_mem_cons.2 ⟨ok109, List.forall_mem_cons.2 ⟨ok111, List.forall_mem_cons.2 ⟨ok112, List.forall_mem_cons.2 ⟨ok114, List.forall_mem_cons.2 ⟨ok115, List.forall_mem_cons.2 ⟨ok116, List.forall_mem_cons.2 ⟨ok118, List.forall_mem_cons.2 ⟨ok119, List.forall_mem_cons.2 ⟨ok120, List.forall_mem_cons.2 ⟨ok121, List.forall_mem_cons.2 ⟨ok122, List.forall_mem_cons.2 ⟨ok123, List.forall_mem_cons.2 ⟨ok124, List.forall_mem_cons.2 ⟨ok125, List.forall_mem_cons.2 ⟨ok126, List.forall_mem_cons.2 ⟨ok127, List.forall_mem_cons.2 ⟨ok128, List.forall_mem_cons.2 ⟨ok129, List.forall_mem_cons.2 ⟨ok131, List.forall_mem_cons.2 ⟨ok132, List.forall_mem_cons.2 ⟨ok133, List.forall_mem_cons.2 ⟨ok134, List.forall_mem_cons.2 ⟨ok135, List.forall_mem_cons.2 ⟨ok136, List.forall_mem_cons.2 ⟨ok137, List.forall_mem_cons.2 ⟨ok138, List.forall_mem_cons.2 ⟨ok140, List.forall_mem_cons.2 ⟨ok141, List.forall_mem_cons.2 ⟨ok142, List.forall_mem_cons.2 ⟨ok143, List.forall_mem_cons.2 ⟨ok145, List.forall_mem_cons.2 ⟨ok146, List.forall_mem_cons.2 ⟨ok147, List.forall_mem_cons.2 ⟨ok148, List.forall_mem_cons.2 ⟨ok150, List.forall_mem_cons.2 ⟨ok151, List.forall_mem_cons.2 ⟨ok152, List.forall_mem_cons.2 ⟨ok153, List.forall_mem_cons.2 ⟨ok154, List.forall_mem_cons.2 ⟨ok155, List.forall_mem_cons.2 ⟨ok156, List.forall_mem_cons.2 ⟨ok157, List.forall_mem_cons.2 ⟨ok158, List.forall_mem_cons.2 ⟨ok159, List.forall_mem_cons.2 ⟨ok160, List.forall_mem_cons.2 ⟨ok161, List.forall_mem_cons.2 ⟨ok162, List.forall_mem_cons.2 ⟨ok163, List.forall_mem_cons.2 ⟨ok165, List.forall_mem_cons.2 ⟨ok166, List.forall_mem_cons.2 ⟨ok167, List.forall_mem_cons.2 ⟨ok168, List.forall_mem_cons.2 ⟨ok170, List.forall_mem_cons.2 ⟨ok171, List.forall_mem_cons.2 ⟨ok172, List.forall_mem_cons.2 ⟨ok173, List.forall_mem_cons.2 ⟨ok174, List.forall_mem_cons.2 ⟨ok175, List.forall_mem_cons.2 ⟨ok176, List.forall_mem_cons.2 ⟨ok177, List.forall_mem_cons.2 ⟨ok178, List.forall_mem_cons.2 ⟨ok180, List.forall_mem_cons.2 ⟨ok181, List.forall_mem_cons.2 ⟨ok182, List.forall_mem_cons.2 ⟨ok183, List.forall_mem_cons.2 ⟨ok184, List.forall_mem_cons.2 ⟨ok185, List.forall_mem_cons.2 ⟨ok186, List.forall_mem_cons.2 ⟨ok187, List.forall_mem_cons.2 ⟨ok188, List.forall_mem_cons.2 ⟨ok190, List.forall_mem_cons.2 ⟨ok192, List.forall_mem_cons.2 ⟨ok193, List.forall_mem_cons.2 ⟨ok194, List.forall_mem_cons.2 ⟨ok196, List.forall_mem_cons.2 ⟨ok197, List.forall_mem_cons.2 ⟨ok198, List.forall_mem_cons.2 ⟨ok199, List.forall_mem_cons.2 ⟨ok200, List.forall_mem_cons.2 ⟨ok201, List.forall_mem_cons.2 ⟨ok202, List.forall_mem_cons.2 ⟨ok203, List.forall_mem_cons.2 ⟨ok204, List.forall_mem_cons.2 ⟨ok205, List.forall_mem_cons.2 ⟨ok206, List.forall_mem_cons.2 ⟨ok212, List.forall_mem_cons.2 ⟨ok215, fun _ h => nomatch h⟩⟩⟩⟩⟩⟩⟩⟩⟩⟩⟩⟩⟩⟩⟩⟩⟩⟩⟩⟩⟩⟩⟩⟩⟩⟩⟩⟩⟩⟩⟩⟩⟩⟩⟩⟩⟩⟩⟩⟩⟩⟩⟩⟩⟩⟩⟩⟩⟩⟩⟩⟩⟩⟩⟩⟩⟩⟩⟩⟩⟩⟩⟩⟩⟩⟩⟩⟩⟩⟩⟩⟩⟩⟩⟩⟩⟩⟩⟩⟩⟩⟩⟩⟩⟩⟩⟩⟩⟩⟩⟩⟩⟩⟩⟩⟩⟩⟩⟩⟩⟩⟩⟩⟩⟩⟩⟩⟩⟩⟩⟩⟩⟩⟩⟩⟩⟩⟩⟩⟩⟩⟩⟩⟩⟩⟩⟩⟩⟩⟩⟩⟩⟩⟩⟩⟩⟩⟩⟩⟩⟩⟩⟩⟩⟩⟩⟩⟩⟩⟩⟩⟩⟩⟩⟩⟩⟩⟩⟩⟩⟩⟩⟩⟩⟩⟩⟩⟩⟩⟩⟩⟩⟩⟩⟩⟩⟩⟩⟩
def pow10Z : List Int := [1, 10, 100, 1000, 10000, 100000, 1000000, 10000000, 100000000, 1000000000, 10000000000, 100000000000, 1000000000000, 10000000000000, 100000000000000, 1000000000000000, 10000000000000000, 100000000000000000, 1000000000000000000, 10000000000000000000]
structure MaxLenT where
  v : Int
def G [Inhabited MaxLenT] : GEnv := fun g => bif Nat.beq g 0 then some [.int .i64 (default : MaxLenT).v] else bif Nat.beq g 1 then some [.iface 182 .unk] else bif Nat.beq g 2 then some [.iface 182 .unk] else bif Nat.beq g 3 then some (pow10Z.map fun z => .int .u64 z) else none
noncomputable def E [Inhabited MaxLenT] : Env := { P := Tryz.prog, T := T, hT := okT, G := G, mixed := by kernel_rfl }
end Tryz
end Go.Gp

/- The manifest's checks: the walks. -/
namespace Go.Gp.Tryz
variable [Inhabited MaxLenT]
open Go.Proofs
set_option linter.unusedVariables false
set_option linter.unusedSimpArgs false

def isTime (t : Int) : Bool := decide (0 ≤ t) && decide (t ≤ 1099511627776)

theorem isTime_A (t : Int) (H : List AObj) : CallsA E 56 [.int .i64 t] H (Is H (.bool (isTime t))) := by
  refine .enter Tryz.func56 rfl rfl rfl 9 Tryz.ntmps56 (Nat.le_of_ble_eq_true rfl) ?_
  repeat' first
    | refine WpA.seq ?_
    | refine WpA.region ?_
    | refine WpOps.op _ rfl rfl rfl rfl rfl ?_
    | refine WpOps.skip rfl rfl rfl ?_
    | refine WpOps.gsplit _ rfl rfl rfl (fun h => ?_) (fun h => ?_)
    | refine WpOps.nil ?_
    | refine WpA.ret ?_
  all_goals (refine retK.ok rfl rfl ?_ .bool; simp [isTime, resV, forget, look] at h ⊢; omega)

/-- A letter of a name, as the reference has it. -/
def refLetter (b : UInt8) : Bool := (decide (97 ≤ b.toNat) && decide (b.toNat ≤ 122)) || (decide (48 ≤ b.toNat) && decide (b.toNat ≤ 57))

theorem letter_A (b : UInt8) (H : List AObj) : CallsA E 138 [u8 b] H (Is H (.bool (refLetter b))) := by
  refine .enter Tryz.func138 rfl rfl rfl 17 Tryz.ntmps138 (Nat.le_of_ble_eq_true rfl) ?_
  repeat' first
    | refine WpA.seq ?_
    | refine WpA.region ?_
    | refine WpOps.op _ rfl rfl rfl rfl rfl ?_
    | refine WpOps.skip rfl rfl rfl ?_
    | refine WpOps.gsplit _ rfl rfl rfl (fun h => ?_) (fun h => ?_)
    | refine WpOps.nil ?_
    | refine WpA.ret ?_
  all_goals (refine retK.ok rfl rfl (congrArg AV.bool ?_) .bool; simp at *; rw [Bool.eq_iff_iff]; simp [refLetter]; omega)

def okName (b : UInt8) : Bool := refLetter b || (decide (65 ≤ b.toNat) && decide (b.toNat ≤ 90)) || b.toNat == 45 || b.toNat == 95 || b.toNat == 46
def nameOk (s : List UInt8) (i : Nat) : Bool := (s.drop i).all okName

theorem nameOk_step {s : List UInt8} {i : Nat} (h : i < s.length) : nameOk s i = (okName s[i] && nameOk s (i + 1)) := by
  unfold nameOk
  rw [List.drop_eq_getElem_cons h, List.all_cons]

def name (s : List UInt8) : Bool := decide (1 ≤ s.length) && decide (s.length ≤ 40) && !(s == [46]) && !(s == [46, 46]) && nameOk s 0

theorem refName_A (s : List UInt8) (H : List AObj) : CallsA E 115 [.str s] H (Is H (.bool (name s))) := by
  refine .enter Tryz.func115 rfl rfl rfl 53 Tryz.ntmps115 (Nat.le_of_ble_eq_true rfl) ?_
  repeat' first
    | refine WpA.seq ?_
    | refine WpA.region ?_
    | refine WpOps.op _ rfl rfl rfl rfl rfl ?_
    | refine WpOps.skip rfl rfl rfl ?_
    | refine WpOps.gsplit _ rfl rfl rfl (fun h => ?_) (fun h => ?_)
    | refine WpA.block ?_
    | refine WpOps.nil ?_
    | refine WpA.ret ?_
    | refine WpA.skip ?_
    | refine WpA.condT rfl ?_
    | refine WpA.cond _ rfl (fun h => ?_) (fun h => ?_)
  · refine retK.ok rfl rfl (congrArg AV.bool ?_) .bool
    simp at *
    simp [name]; omega
  · refine retK.ok rfl rfl (congrArg AV.bool ?_) .bool
    simp at *
    simp [name]; omega
  · refine retK.ok rfl rfl (congrArg AV.bool ?_) .bool
    simp at *
    simp [name, *]
  · refine retK.ok rfl rfl (congrArg AV.bool ?_) .bool
    simp at *
    simp [name, *]
  · rename_i h1 h2 h3
    simp at h1 h2 h3 h
    refine WpA.loopS (α := Nat) (fun i => [(0, .str s), (3, .int .i64 i)]) (fun _ => H ++ []) (fun i => i ≤ s.length ∧ nameOk s 0 = nameOk s i) (fun i => s.length - i) 0 ⟨Nat.zero_le _, rfl⟩ ⟨rfl, rfl, trivial⟩ rfl ?_
    rintro i ⟨hi, hn⟩
    repeat' first
      | refine WpA.seq ?_
      | refine WpA.region ?_
      | refine WpOps.op _ rfl rfl rfl rfl rfl ?_
      | refine WpA.block ?_
      | refine WpA.exit ?_
      | refine WpOps.nil ?_
      | refine WpA.ret ?_
      | refine WpA.skip ?_
      | refine WpA.cond _ rfl (fun h => ?_) (fun h => ?_)
    · simp at h
      have hlt : i < s.length := h
      refine WpOps.indexS s[i] rfl rfl rfl rfl rfl rfl rfl (Int.natCast_nonneg i) (by simp) ?_
      have hd := nameOk_step hlt
      have hu : okName s[i] = (refLetter s[i] || (decide (65 ≤ s[i].toNat) && decide (s[i].toNat ≤ 90)) || s[i].toNat == 45 || s[i].toNat == 95 || s[i].toNat == 46) := rfl
      repeat' first
        | refine WpA.seq ?_
        | refine WpA.region ?_
        | refine WpOps.op _ rfl rfl rfl rfl rfl ?_
        | refine WpOps.skip rfl rfl rfl ?_
        | (refine WpOps.call rfl rfl rfl rfl rfl (by exact letter_A _ _) ?_; rintro _ _ ⟨rfl, rfl⟩)
        | refine WpOps.gsplit _ rfl rfl rfl (fun h => ?_) (fun h => ?_)
        | refine WpOps.nil ?_
        | refine WpA.ret ?_
        | refine WpA.skip ?_
        | refine WpA.condF rfl ?_
        | refine WpA.cond _ rfl (fun h => ?_) (fun h => ?_)
      all_goals first
        | (refine retK.ok rfl rfl (congrArg AV.bool ?_) .bool
           have hb : okName s[i] = false := by
             rw [hu]
             simp at *
             simp [*]
             omega
           rw [name, hn, hd, hb]; simp)
        | (refine ⟨i + 1, ⟨hlt, ?_⟩, by omega, ⟨rfl, congrArg (AV.int .i64) (wrap64 (by omega) (by omega)), trivial⟩, rfl⟩
           have hb : okName s[i] = true := by
             rw [hu]
             simp at *
             first
               | (simp [*]; done)
               | (simp [*]; omega)
           rw [hn, hd, hb]; simp)
    · refine retK.ok rfl rfl (congrArg AV.bool ?_) .bool
      simp at h
      rw [name, hn, nameOk, List.drop_eq_nil_of_le (by omega)]
      simp; exact ⟨⟨⟨by omega, by omega⟩, h3⟩, by assumption⟩
end Go.Gp.Tryz

/- The manifest's checks: names. -/
namespace Go.Gp.Tryz
variable [Inhabited MaxLenT]
open Go.Proofs
set_option linter.unusedVariables false
set_option linter.unusedSimpArgs false

def classOf (n : Nat) : Int :=
  if 97 ≤ n ∧ n ≤ 122 then 1 else if 65 ≤ n ∧ n ≤ 90 then 2 else if 48 ≤ n ∧ n ≤ 57 then 1 else if n = 45 then 3 else if n = 95 then 4 else if n = 46 then 5 else 0
def classCells : List AV := (List.range 256).map fun n => .int .u8 (classOf n)

theorem class_A (H : List AObj) : CallsA E 130 [] H (Is H (.agg classCells)) := by
  refine .enter Tryz.func130 rfl rfl rfl 2 Tryz.ntmps130 (Nat.le_of_ble_eq_true rfl) ?_
  refine WpA.seq ?_
  refine WpA.region ?_
  refine WpOps.alloc _ rfl rfl rfl rfl rfl rfl ?_
  refine WpOps.nil ?_
  refine WpA.seq ?_
  refine WpA.region ?_
  refine WpOps.build classCells rfl rfl rfl rfl (by kernel_rfl) ?_
  refine WpOps.store rfl rfl rfl rfl rfl rfl rfl (by kernel_rfl) (by kernel_rfl) (by kernel_rfl) ?_
  refine WpOps.nil ?_
  refine WpA.ret ?_
  refine retK.ok (show resL _ _ _ _ = some [.agg classCells] from ?_) rfl ?_ ?_
  · kernel_rfl
  · kernel_rfl
  · refine .agg fun e he => ?_
    obtain ⟨n, _, rfl⟩ := List.mem_map.1 he
    exact .int

theorem class_get (b : UInt8) : classCells[b.toNat]? = some (.int .u8 (classOf b.toNat)) := by
  have := b.toNat_lt
  rw [classCells, List.getElem?_map, List.getElem?_range (by omega)]
  rfl

theorem class_ok (b : UInt8) : (classOf b.toNat == 0) = !okName b := by
  have h : okName b = (((decide (97 ≤ b.toNat) && decide (b.toNat ≤ 122)) || (decide (48 ≤ b.toNat) && decide (b.toNat ≤ 57))) || (decide (65 ≤ b.toNat) && decide (b.toNat ≤ 90)) || b.toNat == 45 || b.toNat == 95 || b.toNat == 46) := rfl
  rw [h]
  generalize b.toNat = n
  rw [Bool.eq_iff_iff]
  unfold classOf
  simp
  repeat' split
  all_goals simp <;> omega

theorem Name_A (s : List UInt8) (H : List AObj) : CallsA E 106 [.str s] H (Is H (.bool (name s))) := by
  refine .enter Tryz.func106 rfl rfl rfl 32 Tryz.ntmps106 (Nat.le_of_ble_eq_true rfl) ?_
  repeat' first
    | refine WpA.seq ?_
    | refine WpA.region ?_
    | refine WpOps.op _ rfl rfl rfl rfl rfl ?_
    | refine WpOps.skip rfl rfl rfl ?_
    | refine WpOps.gsplit _ rfl rfl rfl (fun h => ?_) (fun h => ?_)
    | refine WpA.block ?_
    | refine WpOps.nil ?_
    | refine WpA.ret ?_
    | refine WpA.skip ?_
    | refine WpA.condT rfl ?_
    | refine WpA.cond _ rfl (fun h => ?_) (fun h => ?_)
  · refine retK.ok rfl rfl (congrArg AV.bool ?_) .bool
    simp at *
    simp [name]; omega
  · refine retK.ok rfl rfl (congrArg AV.bool ?_) .bool
    simp at *
    simp [name]; omega
  · refine retK.ok rfl rfl (congrArg AV.bool ?_) .bool
    simp at *
    simp [name, *]
  · refine retK.ok rfl rfl (congrArg AV.bool ?_) .bool
    simp at *
    simp [name, *]
  · rename_i h1 h2 h3
    simp at h1 h2 h3 h
    refine WpA.loopS (α := Nat) (fun i => [(0, .str s), (21, .int .i64 s.length), (22, .int .i64 i)]) (fun _ => H ++ []) (fun i => i ≤ s.length ∧ nameOk s 0 = nameOk s i) (fun i => s.length - i) 0 ⟨Nat.zero_le _, rfl⟩ ⟨rfl, rfl, rfl, trivial⟩ rfl ?_
    rintro i ⟨hi, hn⟩
    repeat' first
      | refine WpA.seq ?_
      | refine WpA.region ?_
      | refine WpOps.op _ rfl rfl rfl rfl rfl ?_
      | refine WpA.block ?_
      | refine WpA.exit ?_
      | refine WpOps.nil ?_
      | refine WpA.ret ?_
      | refine WpA.skip ?_
      | refine WpA.cond _ rfl (fun h => ?_) (fun h => ?_)
      | refine WpA.draw (by kernel_rfl) ?_
      | refine LexA.op _ rfl rfl rfl rfl rfl ?_
      | refine LexA.call rfl rfl rfl rfl rfl (by exact class_A _) ?_
    · simp at h
      have hlt : i < s.length := h
      have hd := nameOk_step hlt
      refine LexA.indexS s[i] rfl rfl rfl rfl rfl rfl rfl (Int.natCast_nonneg i) (by simp) ?_
      refine LexA.indexA (.int .u8 (classOf s[i].toNat)) rfl rfl rfl rfl rfl rfl rfl (Int.natCast_nonneg _) ?_ ?_ ?_
      · have := s[i].toNat_lt; omega
      · show classCells[((s[i].toNat : Int)).toNat * 1]? = _
        rw [Int.toNat_natCast, Nat.mul_one]
        exact class_get _
      repeat' first
        | refine WpA.seq ?_
        | refine WpA.region ?_
        | refine WpOps.op _ rfl rfl rfl rfl rfl ?_
        | refine WpOps.nil ?_
        | refine WpA.ret ?_
        | refine WpA.skip ?_
        | refine WpA.cond _ rfl (fun h => ?_) (fun h => ?_)
        | refine LexA.op _ rfl rfl rfl rfl rfl ?_
        | refine LexA.nil ?_
      · have hc : okName s[i] = false := by have := class_ok s[i]; rw [h] at this; simpa using this.symm
        refine retK.ok rfl rfl (congrArg AV.bool ?_) .bool
        rw [name, hn, hd, hc]; simp
      · have hc : okName s[i] = true := by have := class_ok s[i]; rw [h] at this; simpa using this.symm
        refine ⟨i + 1, ⟨hlt, ?_⟩, by omega, ⟨rfl, rfl, congrArg (AV.int .i64) (wrap64 (by omega) (by omega)), trivial⟩, rfl⟩
        rw [hn, hd, hc]; simp
    · refine retK.ok rfl rfl (congrArg AV.bool ?_) .bool
      simp at h
      rw [name, hn, nameOk, List.drop_eq_nil_of_le (by omega)]
      simp; exact ⟨⟨⟨by omega, by omega⟩, h3⟩, by assumption⟩
end Go.Gp.Tryz
