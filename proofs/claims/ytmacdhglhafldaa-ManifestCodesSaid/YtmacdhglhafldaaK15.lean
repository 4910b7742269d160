/- Part of a proof: GpEnv1, GpO1, GpO2 -/
import Derived.Test.YtmacdhglhafldaaK3
import Derived.Test.YtmacdhglhafldaaK9
import Derived.Test.YtmacdhglhafldaaProg
import Derived.KernelRfl

/- The types that the walks name, as a table. -/
namespace Go.Gp
open Go.Proofs
namespace Try
def t1 : TI := ⟨.fn, 1, .nilFunc, 8⟩ -- func()
theorem ok1 : TI.ok Try.prog 1 t1 := ⟨⟨_, Try.underlying1, _, _, _, rfl⟩, by kernel_rfl⟩
def t2 : TI := ⟨(.int .i64), 1, (.int .i64 0), 8⟩ -- int64
theorem ok2 : TI.ok Try.prog 2 t2 := ⟨⟨_, Try.underlying2, rfl⟩, by kernel_rfl⟩
def t3 : TI := ⟨(.int .i64), 1, (.int .i64 0), 8⟩ -- int
theorem ok3 : TI.ok Try.prog 3 t3 := ⟨⟨_, Try.underlying3, rfl⟩, by kernel_rfl⟩
def t4 : TI := ⟨.basic, 1, (.bool false), 1⟩ -- bool
theorem ok4 : TI.ok Try.prog 4 t4 := ⟨⟨_, Try.underlying4, rfl⟩, by kernel_rfl⟩
def t5 : TI := ⟨(.int .u8), 1, (.int .u8 0), 1⟩ -- uint8
theorem ok5 : TI.ok Try.prog 5 t5 := ⟨⟨_, Try.underlying5, rfl⟩, by kernel_rfl⟩
def t9 : TI := ⟨.str, 1, (.string ⟨#[]⟩), 16⟩ -- string
theorem ok9 : TI.ok Try.prog 9 t9 := ⟨⟨_, Try.underlying9, rfl⟩, by kernel_rfl⟩
def t12 : TI := ⟨(.int .u64), 1, (.int .u64 0), 8⟩ -- uintptr
theorem ok12 : TI.ok Try.prog 12 t12 := ⟨⟨_, Try.underlying12, rfl⟩, by kernel_rfl⟩
def t13 : TI := ⟨(.struct [(0, 9), (1, 12)]), 2, (.agg #[(.string ⟨#[]⟩), (.int .u64 0)]), 24⟩ -- struct { msg string; addr uintptr }
theorem ok13 : TI.ok Try.prog 13 t13 := ⟨⟨_, Try.underlying13, _, rfl, rfl⟩, by kernel_rfl⟩
def t20 : TI := ⟨.iface, 1, .nilIface, 16⟩ -- interface {}
theorem ok20 : TI.ok Try.prog 20 t20 := ⟨⟨_, Try.underlying20, _, rfl⟩, by kernel_rfl⟩
def t21 : TI := ⟨(.int .i32), 1, (.int .i32 0), 4⟩ -- int32
theorem ok21 : TI.ok Try.prog 21 t21 := ⟨⟨_, Try.underlying21, rfl⟩, by kernel_rfl⟩
def t22 : TI := ⟨(.int .u64), 1, (.int .u64 0), 8⟩ -- uint64
theorem ok22 : TI.ok Try.prog 22 t22 := ⟨⟨_, Try.underlying22, rfl⟩, by kernel_rfl⟩
def t23 : TI := ⟨(.struct [(0, 2), (1, 2)]), 2, (.agg #[(.int .i64 0), (.int .i64 0)]), 16⟩ -- struct { From int64; To int64 }
theorem ok23 : TI.ok Try.prog 23 t23 := ⟨⟨_, Try.underlying23, _, rfl, rfl⟩, by kernel_rfl⟩
def t24 : TI := ⟨(.struct [(0, 2), (1, 2)]), 2, (.agg #[(.int .i64 0), (.int .i64 0)]), 16⟩ -- api.Window
theorem ok24 : TI.ok Try.prog 24 t24 := ⟨⟨_, Try.underlying24, _, rfl, rfl⟩, by kernel_rfl⟩
def t25 : TI := ⟨(.slice 53), 1, (.slice none 0 0), 24⟩ -- []api.FileHash
theorem ok25 : TI.ok Try.prog 25 t25 := ⟨⟨_, Try.underlying25, rfl⟩, by kernel_rfl⟩
def t26 : TI := ⟨(.struct [(0, 22), (1, 24), (3, 25)]), 4, (.agg #[(.int .u64 0), (.int .i64 0), (.int .i64 0), (.slice none 0 0)]), 48⟩ -- struct { Number uint64; Valid api.Window; Files []api.FileHash }
theorem ok26 : TI.ok Try.prog 26 t26 := ⟨⟨_, Try.underlying26, _, rfl, rfl⟩, by kernel_rfl⟩
def t27 : TI := ⟨(.struct [(0, 22), (1, 24), (3, 25)]), 4, (.agg #[(.int .u64 0), (.int .i64 0), (.int .i64 0), (.slice none 0 0)]), 48⟩ -- api.ManifestList
theorem ok27 : TI.ok Try.prog 27 t27 := ⟨⟨_, Try.underlying27, _, rfl, rfl⟩, by kernel_rfl⟩
def t28 : TI := ⟨.fn, 1, .nilFunc, 8⟩ -- func(api.ManifestList) bool
theorem ok28 : TI.ok Try.prog 28 t28 := ⟨⟨_, Try.underlying28, _, _, _, rfl⟩, by kernel_rfl⟩
def t29 : TI := ⟨.fn, 1, .nilFunc, 8⟩ -- func(api.ManifestList) api.ManifestList
theorem ok29 : TI.ok Try.prog 29 t29 := ⟨⟨_, Try.underlying29, _, _, _, rfl⟩, by kernel_rfl⟩
def t30 : TI := ⟨(.array 32 5), 32, (.agg (Array.replicate 32 (.int .u8 0))), 32⟩ -- [32]uint8
theorem ok30 : TI.ok Try.prog 30 t30 := ⟨⟨_, Try.underlying30, rfl⟩, by kernel_rfl⟩
def t31 : TI := ⟨(.array 32 5), 32, (.agg (Array.replicate 32 (.int .u8 0))), 32⟩ -- api.Hash
theorem ok31 : TI.ok Try.prog 31 t31 := ⟨⟨_, Try.underlying31, rfl⟩, by kernel_rfl⟩
def t32 : TI := ⟨(.int .i64), 1, (.int .i64 0), 8⟩ -- api.Errno
theorem ok32 : TI.ok Try.prog 32 t32 := ⟨⟨_, Try.underlying32, rfl⟩, by kernel_rfl⟩
def t34 : TI := ⟨.fn, 1, .nilFunc, 8⟩ -- func(api.ManifestList, string) (api.Hash, api.Errno)
theorem ok34 : TI.ok Try.prog 34 t34 := ⟨⟨_, Try.underlying34, _, _, _, rfl⟩, by kernel_rfl⟩
def t36 : TI := ⟨.fn, 1, .nilFunc, 8⟩ -- func(api.ManifestList, string) (api.Hash, int)
theorem ok36 : TI.ok Try.prog 36 t36 := ⟨⟨_, Try.underlying36, _, _, _, rfl⟩, by kernel_rfl⟩
def t37 : TI := ⟨.fn, 1, .nilFunc, 8⟩ -- func(api.ManifestList) api.Errno
theorem ok37 : TI.ok Try.prog 37 t37 := ⟨⟨_, Try.underlying37, _, _, _, rfl⟩, by kernel_rfl⟩
def t38 : TI := ⟨.fn, 1, .nilFunc, 8⟩ -- func(api.ManifestList) int
theorem ok38 : TI.ok Try.prog 38 t38 := ⟨⟨_, Try.underlying38, _, _, _, rfl⟩, by kernel_rfl⟩
def t39 : TI := ⟨.fn, 1, .nilFunc, 8⟩ -- func(api.ManifestList, api.ManifestList) bool
theorem ok39 : TI.ok Try.prog 39 t39 := ⟨⟨_, Try.underlying39, _, _, _, rfl⟩, by kernel_rfl⟩
def t40 : TI := ⟨.fn, 1, .nilFunc, 8⟩ -- func(api.ManifestList, api.ManifestList, string) bool
theorem ok40 : TI.ok Try.prog 40 t40 := ⟨⟨_, Try.underlying40, _, _, _, rfl⟩, by kernel_rfl⟩
def t41 : TI := ⟨(.slice 5), 1, (.slice none 0 0), 24⟩ -- []uint8
theorem ok41 : TI.ok Try.prog 41 t41 := ⟨⟨_, Try.underlying41, rfl⟩, by kernel_rfl⟩
def t43 : TI := ⟨.fn, 1, .nilFunc, 8⟩ -- func(api.ManifestList) ([]uint8, api.Errno)
theorem ok43 : TI.ok Try.prog 43 t43 := ⟨⟨_, Try.underlying43, _, _, _, rfl⟩, by kernel_rfl⟩
def t45 : TI := ⟨.fn, 1, .nilFunc, 8⟩ -- func(api.ManifestList) ([]uint8, int)
theorem ok45 : TI.ok Try.prog 45 t45 := ⟨⟨_, Try.underlying45, _, _, _, rfl⟩, by kernel_rfl⟩
def t47 : TI := ⟨.fn, 1, .nilFunc, 8⟩ -- func([]uint8) (api.ManifestList, api.Errno)
theorem ok47 : TI.ok Try.prog 47 t47 := ⟨⟨_, Try.underlying47, _, _, _, rfl⟩, by kernel_rfl⟩
def t49 : TI := ⟨.fn, 1, .nilFunc, 8⟩ -- func([]uint8) (api.ManifestList, int)
theorem ok49 : TI.ok Try.prog 49 t49 := ⟨⟨_, Try.underlying49, _, _, _, rfl⟩, by kernel_rfl⟩
def t50 : TI := ⟨.fn, 1, .nilFunc, 8⟩ -- func([]uint8, []uint8) bool
theorem ok50 : TI.ok Try.prog 50 t50 := ⟨⟨_, Try.underlying50, _, _, _, rfl⟩, by kernel_rfl⟩
def t51 : TI := ⟨.fn, 1, .nilFunc, 8⟩ -- func(api.ManifestList, []uint8) bool
theorem ok51 : TI.ok Try.prog 51 t51 := ⟨⟨_, Try.underlying51, _, _, _, rfl⟩, by kernel_rfl⟩
def t52 : TI := ⟨(.struct [(0, 9), (1, 31)]), 33, (.agg #[(.string ⟨#[]⟩), (.int .u8 0), (.int .u8 0), (.int .u8 0), (.int .u8 0), (.int .u8 0), (.int .u8 0), (.int .u8 0), (.int .u8 0), (.int .u8 0), (.int .u8 0), (.int .u8 0), (.int .u8 0), (.int .u8 0), (.int .u8 0), (.int .u8 0), (.int .u8 0), (.int .u8 0), (.int .u8 0), (.int .u8 0), (.int .u8 0), (.int .u8 0), (.int .u8 0), (.int .u8 0), (.int .u8 0), (.int .u8 0), (.int .u8 0), (.int .u8 0), (.int .u8 0), (.int .u8 0), (.int .u8 0), (.int .u8 0), (.int .u8 0)]), 48⟩ -- struct { Name string; Hash api.Hash }
theorem ok52 : TI.ok Try.prog 52 t52 := ⟨⟨_, Try.underlying52, _, rfl, rfl⟩, by kernel_rfl⟩
def t53 : TI := ⟨(.struct [(0, 9), (1, 31)]), 33, (.agg #[(.string ⟨#[]⟩), (.int .u8 0), (.int .u8 0), (.int .u8 0), (.int .u8 0), (.int .u8 0), (.int .u8 0), (.int .u8 0), (.int .u8 0), (.int .u8 0), (.int .u8 0), (.int .u8 0), (.int .u8 0), (.int .u8 0), (.int .u8 0), (.int .u8 0), (.int .u8 0), (.int .u8 0), (.int .u8 0), (.int .u8 0), (.int .u8 0), (.int .u8 0), (.int .u8 0), (.int .u8 0), (.int .u8 0), (.int .u8 0), (.int .u8 0), (.int .u8 0), (.int .u8 0), (.int .u8 0), (.int .u8 0), (.int .u8 0), (.int .u8 0)]), 48⟩ -- api.FileHash
theorem ok53 : TI.ok Try.prog 53 t53 := ⟨⟨_, Try.underlying53, _, rfl, rfl⟩, by kernel_rfl⟩
def t55 : TI := ⟨.fn, 1, .nilFunc, 8⟩ -- func([]api.FileHash, string, func(api.FileHash, string) int) (int, bool)
theorem ok55 : TI.ok Try.prog 55 t55 := ⟨⟨_, Try.underlying55, _, _, _, rfl⟩, by kernel_rfl⟩
def t56 : TI := ⟨.fn, 1, .nilFunc, 8⟩ -- func(string, string) int
theorem ok56 : TI.ok Try.prog 56 t56 := ⟨⟨_, Try.underlying56, _, _, _, rfl⟩, by kernel_rfl⟩
def t57 : TI := ⟨.fn, 1, .nilFunc, 8⟩ -- func(api.FileHash, string) int
theorem ok57 : TI.ok Try.prog 57 t57 := ⟨⟨_, Try.underlying57, _, _, _, rfl⟩, by kernel_rfl⟩
def t58 : TI := ⟨.fn, 1, .nilFunc, 8⟩ -- func(api.ManifestList, string) int
theorem ok58 : TI.ok Try.prog 58 t58 := ⟨⟨_, Try.underlying58, _, _, _, rfl⟩, by kernel_rfl⟩
def t59 : TI := ⟨.fn, 1, .nilFunc, 8⟩ -- func(api.Window) api.Errno
theorem ok59 : TI.ok Try.prog 59 t59 := ⟨⟨_, Try.underlying59, _, _, _, rfl⟩, by kernel_rfl⟩
def t60 : TI := ⟨.fn, 1, .nilFunc, 8⟩ -- func(string) bool
theorem ok60 : TI.ok Try.prog 60 t60 := ⟨⟨_, Try.underlying60, _, _, _, rfl⟩, by kernel_rfl⟩
def t61 : TI := ⟨.fn, 1, .nilFunc, 8⟩ -- func(api.Window) int
theorem ok61 : TI.ok Try.prog 61 t61 := ⟨⟨_, Try.underlying61, _, _, _, rfl⟩, by kernel_rfl⟩
def t62 : TI := ⟨.fn, 1, .nilFunc, 8⟩ -- func([]api.FileHash, []api.FileHash) bool
theorem ok62 : TI.ok Try.prog 62 t62 := ⟨⟨_, Try.underlying62, _, _, _, rfl⟩, by kernel_rfl⟩
def t63 : TI := ⟨(.slice 65), 1, (.slice none 0 0), 24⟩ -- []api.Octet
theorem ok63 : TI.ok Try.prog 63 t63 := ⟨⟨_, Try.underlying63, rfl⟩, by kernel_rfl⟩
def t64 : TI := ⟨(.struct [(0, 5), (1, 41), (2, 63)]), 3, (.agg #[(.int .u8 0), (.slice none 0 0), (.slice none 0 0)]), 56⟩ -- struct { Tag uint8; Bytes []uint8; List []api.Octet }
theorem ok64 : TI.ok Try.prog 64 t64 := ⟨⟨_, Try.underlying64, _, rfl, rfl⟩, by kernel_rfl⟩
def t65 : TI := ⟨(.struct [(0, 5), (1, 41), (2, 63)]), 3, (.agg #[(.int .u8 0), (.slice none 0 0), (.slice none 0 0)]), 56⟩ -- api.Octet
theorem ok65 : TI.ok Try.prog 65 t65 := ⟨⟨_, Try.underlying65, _, rfl, rfl⟩, by kernel_rfl⟩
def t66 : TI := ⟨.fn, 1, .nilFunc, 8⟩ -- func(uint8, uint64) api.Octet
theorem ok66 : TI.ok Try.prog 66 t66 := ⟨⟨_, Try.underlying66, _, _, _, rfl⟩, by kernel_rfl⟩
def t67 : TI := ⟨.fn, 1, .nilFunc, 8⟩ -- func(uint8, ...api.Octet) api.Octet
theorem ok67 : TI.ok Try.prog 67 t67 := ⟨⟨_, Try.underlying67, _, _, _, rfl⟩, by kernel_rfl⟩
def t68 : TI := ⟨.fn, 1, .nilFunc, 8⟩ -- func(uint8, string) api.Octet
theorem ok68 : TI.ok Try.prog 68 t68 := ⟨⟨_, Try.underlying68, _, _, _, rfl⟩, by kernel_rfl⟩
def t69 : TI := ⟨.fn, 1, .nilFunc, 8⟩ -- func(api.Octet) ([]uint8, api.Errno)
theorem ok69 : TI.ok Try.prog 69 t69 := ⟨⟨_, Try.underlying69, _, _, _, rfl⟩, by kernel_rfl⟩
def t70 : TI := ⟨.fn, 1, .nilFunc, 8⟩ -- func(api.Octet) []uint8
theorem ok70 : TI.ok Try.prog 70 t70 := ⟨⟨_, Try.underlying70, _, _, _, rfl⟩, by kernel_rfl⟩
def t71 : TI := ⟨.fn, 1, .nilFunc, 8⟩ -- func(api.ManifestList) api.Octet
theorem ok71 : TI.ok Try.prog 71 t71 := ⟨⟨_, Try.underlying71, _, _, _, rfl⟩, by kernel_rfl⟩
def t73 : TI := ⟨.fn, 1, .nilFunc, 8⟩ -- func([]uint8) (api.Octet, api.Errno)
theorem ok73 : TI.ok Try.prog 73 t73 := ⟨⟨_, Try.underlying73, _, _, _, rfl⟩, by kernel_rfl⟩
def t74 : TI := ⟨.fn, 1, .nilFunc, 8⟩ -- func(...api.Errno) api.Errno
theorem ok74 : TI.ok Try.prog 74 t74 := ⟨⟨_, Try.underlying74, _, _, _, rfl⟩, by kernel_rfl⟩
def t75 : TI := ⟨.fn, 1, .nilFunc, 8⟩ -- func(api.Errno)
theorem ok75 : TI.ok Try.prog 75 t75 := ⟨⟨_, Try.underlying75, _, _, _, rfl⟩, by kernel_rfl⟩
def t77 : TI := ⟨.fn, 1, .nilFunc, 8⟩ -- func(api.Octet, uint8, int, int) ([]api.Octet, api.Errno)
theorem ok77 : TI.ok Try.prog 77 t77 := ⟨⟨_, Try.underlying77, _, _, _, rfl⟩, by kernel_rfl⟩
def t79 : TI := ⟨.fn, 1, .nilFunc, 8⟩ -- func(api.Octet, uint8, uint64) (uint64, api.Errno)
theorem ok79 : TI.ok Try.prog 79 t79 := ⟨⟨_, Try.underlying79, _, _, _, rfl⟩, by kernel_rfl⟩
def t80 : TI := ⟨.fn, 1, .nilFunc, 8⟩ -- func(int, uint64) uint64
theorem ok80 : TI.ok Try.prog 80 t80 := ⟨⟨_, Try.underlying80, _, _, _, rfl⟩, by kernel_rfl⟩
def t82 : TI := ⟨.fn, 1, .nilFunc, 8⟩ -- func(api.Octet, uint8, int) (string, api.Errno)
theorem ok82 : TI.ok Try.prog 82 t82 := ⟨⟨_, Try.underlying82, _, _, _, rfl⟩, by kernel_rfl⟩
def t84 : TI := ⟨.fn, 1, .nilFunc, 8⟩ -- func([]uint8) (api.Octet, int)
theorem ok84 : TI.ok Try.prog 84 t84 := ⟨⟨_, Try.underlying84, _, _, _, rfl⟩, by kernel_rfl⟩
def t85 : TI := ⟨.fn, 1, .nilFunc, 8⟩ -- func([]api.Octet, int, uint8) uint64
theorem ok85 : TI.ok Try.prog 85 t85 := ⟨⟨_, Try.underlying85, _, _, _, rfl⟩, by kernel_rfl⟩
def t86 : TI := ⟨.fn, 1, .nilFunc, 8⟩ -- func(uint64) int64
theorem ok86 : TI.ok Try.prog 86 t86 := ⟨⟨_, Try.underlying86, _, _, _, rfl⟩, by kernel_rfl⟩
def t87 : TI := ⟨(.int .u64), 1, (.int .u64 0), 8⟩ -- uint
theorem ok87 : TI.ok Try.prog 87 t87 := ⟨⟨_, Try.underlying87, rfl⟩, by kernel_rfl⟩
def t88 : TI := ⟨.fn, 1, .nilFunc, 8⟩ -- func(int64) bool
theorem ok88 : TI.ok Try.prog 88 t88 := ⟨⟨_, Try.underlying88, _, _, _, rfl⟩, by kernel_rfl⟩
def t89 : TI := ⟨(.array 256 5), 256, (.agg (Array.replicate 256 (.int .u8 0))), 256⟩ -- [256]uint8
theorem ok89 : TI.ok Try.prog 89 t89 := ⟨⟨_, Try.underlying89, rfl⟩, by kernel_rfl⟩
def t90 : TI := ⟨.fn, 1, .nilFunc, 8⟩ -- func() [256]uint8
theorem ok90 : TI.ok Try.prog 90 t90 := ⟨⟨_, Try.underlying90, _, _, _, rfl⟩, by kernel_rfl⟩
def t91 : TI := ⟨.fn, 1, .nilFunc, 8⟩ -- func(uint8) bool
theorem ok91 : TI.ok Try.prog 91 t91 := ⟨⟨_, Try.underlying91, _, _, _, rfl⟩, by kernel_rfl⟩
def t92 : TI := ⟨.fn, 1, .nilFunc, 8⟩ -- func(uint64) int
theorem ok92 : TI.ok Try.prog 92 t92 := ⟨⟨_, Try.underlying92, _, _, _, rfl⟩, by kernel_rfl⟩
def t93 : TI := ⟨.fn, 1, .nilFunc, 8⟩ -- func(api.Octet) api.Octet
theorem ok93 : TI.ok Try.prog 93 t93 := ⟨⟨_, Try.underlying93, _, _, _, rfl⟩, by kernel_rfl⟩
def t94 : TI := ⟨.fn, 1, .nilFunc, 8⟩ -- func(api.Octet) api.Errno
theorem ok94 : TI.ok Try.prog 94 t94 := ⟨⟨_, Try.underlying94, _, _, _, rfl⟩, by kernel_rfl⟩
def t95 : TI := ⟨.fn, 1, .nilFunc, 8⟩ -- func([]uint8, api.Octet) []uint8
theorem ok95 : TI.ok Try.prog 95 t95 := ⟨⟨_, Try.underlying95, _, _, _, rfl⟩, by kernel_rfl⟩
def t96 : TI := ⟨.fn, 1, .nilFunc, 8⟩ -- func(int) []uint8
theorem ok96 : TI.ok Try.prog 96 t96 := ⟨⟨_, Try.underlying96, _, _, _, rfl⟩, by kernel_rfl⟩
def t97 : TI := ⟨.fn, 1, .nilFunc, 8⟩ -- func(api.Hash) []uint8
theorem ok97 : TI.ok Try.prog 97 t97 := ⟨⟨_, Try.underlying97, _, _, _, rfl⟩, by kernel_rfl⟩
def t98 : TI := ⟨(.struct []), 0, (.agg #[]), 0⟩ -- struct {}
theorem ok98 : TI.ok Try.prog 98 t98 := ⟨⟨_, Try.underlying98, _, rfl, rfl⟩, by kernel_rfl⟩
def t99 : TI := ⟨(.struct []), 0, (.agg #[]), 0⟩ -- octet.errForm
theorem ok99 : TI.ok Try.prog 99 t99 := ⟨⟨_, Try.underlying99, _, rfl, rfl⟩, by kernel_rfl⟩
def t101 : TI := ⟨(.ptr 103), 1, (.pointer none), 8⟩ -- *octet.reader
theorem ok101 : TI.ok Try.prog 101 t101 := ⟨⟨_, Try.underlying101, rfl⟩, by kernel_rfl⟩
def t102 : TI := ⟨(.struct [(0, 41)]), 1, (.agg #[(.slice none 0 0)]), 24⟩ -- struct { b []uint8 }
theorem ok102 : TI.ok Try.prog 102 t102 := ⟨⟨_, Try.underlying102, _, rfl, rfl⟩, by kernel_rfl⟩
def t103 : TI := ⟨(.struct [(0, 41)]), 1, (.agg #[(.slice none 0 0)]), 24⟩ -- octet.reader
theorem ok103 : TI.ok Try.prog 103 t103 := ⟨⟨_, Try.underlying103, _, rfl, rfl⟩, by kernel_rfl⟩
def t104 : TI := ⟨.fn, 1, .nilFunc, 8⟩ -- func(int) api.Octet
theorem ok104 : TI.ok Try.prog 104 t104 := ⟨⟨_, Try.underlying104, _, _, _, rfl⟩, by kernel_rfl⟩
def t105 : TI := ⟨.fn, 1, .nilFunc, 8⟩ -- func(bool)
theorem ok105 : TI.ok Try.prog 105 t105 := ⟨⟨_, Try.underlying105, _, _, _, rfl⟩, by kernel_rfl⟩
def t106 : TI := ⟨(.slice 32), 1, (.slice none 0 0), 24⟩ -- []api.Errno
theorem ok106 : TI.ok Try.prog 106 t106 := ⟨⟨_, Try.underlying106, rfl⟩, by kernel_rfl⟩
def t108 : TI := ⟨.fn, 1, .nilFunc, 8⟩ -- func([]uint8, int) (api.Octet, int, bool)
theorem ok108 : TI.ok Try.prog 108 t108 := ⟨⟨_, Try.underlying108, _, _, _, rfl⟩, by kernel_rfl⟩
def t109 : TI := ⟨.fn, 1, .nilFunc, 8⟩ -- func(api.Octet) int
theorem ok109 : TI.ok Try.prog 109 t109 := ⟨⟨_, Try.underlying109, _, _, _, rfl⟩, by kernel_rfl⟩
def t111 : TI := ⟨.fn, 1, .nilFunc, 8⟩ -- func(api.Octet, uint8, uint64) (uint64, int)
theorem ok111 : TI.ok Try.prog 111 t111 := ⟨⟨_, Try.underlying111, _, _, _, rfl⟩, by kernel_rfl⟩
def t112 : TI := ⟨.fn, 1, .nilFunc, 8⟩ -- func([]uint8) []uint8
theorem ok112 : TI.ok Try.prog 112 t112 := ⟨⟨_, Try.underlying112, _, _, _, rfl⟩, by kernel_rfl⟩
def t113 : TI := ⟨.fn, 1, .nilFunc, 8⟩ -- func([]api.Octet) []api.Octet
theorem ok113 : TI.ok Try.prog 113 t113 := ⟨⟨_, Try.underlying113, _, _, _, rfl⟩, by kernel_rfl⟩
def t114 : TI := ⟨.fn, 1, .nilFunc, 8⟩ -- func(func(api.Octet, int) bool)
theorem ok114 : TI.ok Try.prog 114 t114 := ⟨⟨_, Try.underlying114, _, _, _, rfl⟩, by kernel_rfl⟩
def t115 : TI := ⟨.fn, 1, .nilFunc, 8⟩ -- func(api.Octet, int) func(func(api.Octet, int) bool)
theorem ok115 : TI.ok Try.prog 115 t115 := ⟨⟨_, Try.underlying115, _, _, _, rfl⟩, by kernel_rfl⟩
def t116 : TI := ⟨.fn, 1, .nilFunc, 8⟩ -- func(int) int
theorem ok116 : TI.ok Try.prog 116 t116 := ⟨⟨_, Try.underlying116, _, _, _, rfl⟩, by kernel_rfl⟩
def t117 : TI := ⟨.fn, 1, .nilFunc, 8⟩ -- func(uint64) []uint8
theorem ok117 : TI.ok Try.prog 117 t117 := ⟨⟨_, Try.underlying117, _, _, _, rfl⟩, by kernel_rfl⟩
def t118 : TI := ⟨.fn, 1, .nilFunc, 8⟩ -- func() int
theorem ok118 : TI.ok Try.prog 118 t118 := ⟨⟨_, Try.underlying118, _, _, _, rfl⟩, by kernel_rfl⟩
def t120 : TI := ⟨.fn, 1, .nilFunc, 8⟩ -- func([]uint8) (uint8, int, int, bool)
theorem ok120 : TI.ok Try.prog 120 t120 := ⟨⟨_, Try.underlying120, _, _, _, rfl⟩, by kernel_rfl⟩
def t121 : TI := ⟨.fn, 1, .nilFunc, 8⟩ -- func(api.Octet) bool
theorem ok121 : TI.ok Try.prog 121 t121 := ⟨⟨_, Try.underlying121, _, _, _, rfl⟩, by kernel_rfl⟩
def t122 : TI := ⟨.fn, 1, .nilFunc, 8⟩ -- func(api.Octet, int) bool
theorem ok122 : TI.ok Try.prog 122 t122 := ⟨⟨_, Try.underlying122, _, _, _, rfl⟩, by kernel_rfl⟩
def t123 : TI := ⟨.fn, 1, .nilFunc, 8⟩ -- func(uint) int
theorem ok123 : TI.ok Try.prog 123 t123 := ⟨⟨_, Try.underlying123, _, _, _, rfl⟩, by kernel_rfl⟩
def t124 : TI := ⟨.fn, 1, .nilFunc, 8⟩ -- func(uint32) int
theorem ok124 : TI.ok Try.prog 124 t124 := ⟨⟨_, Try.underlying124, _, _, _, rfl⟩, by kernel_rfl⟩
def t125 : TI := ⟨(.int .u32), 1, (.int .u32 0), 4⟩ -- uint32
theorem ok125 : TI.ok Try.prog 125 t125 := ⟨⟨_, Try.underlying125, rfl⟩, by kernel_rfl⟩
def t126 : TI := ⟨.fn, 1, .nilFunc, 8⟩ -- func() string
theorem ok126 : TI.ok Try.prog 126 t126 := ⟨⟨_, Try.underlying126, _, _, _, rfl⟩, by kernel_rfl⟩
def t134 : TI := ⟨.fn, 1, .nilFunc, 8⟩ -- func(unsafe.Pointer, unsafe.Pointer) bool
theorem ok134 : TI.ok Try.prog 134 t134 := ⟨⟨_, Try.underlying134, _, _, _, rfl⟩, by kernel_rfl⟩
def t135 : TI := ⟨(.ptr 5), 1, (.pointer none), 8⟩ -- *uint8
theorem ok135 : TI.ok Try.prog 135 t135 := ⟨⟨_, Try.underlying135, rfl⟩, by kernel_rfl⟩
def T : List (Nat × TI) := [(1, t1), (2, t2), (3, t3), (4, t4), (5, t5), (9, t9), (12, t12), (13, t13), (20, t20), (21, t21), (22, t22), (23, t23), (24, t24), (25, t25), (26, t26), (27, t27), (28, t28), (29, t29), (30, t30), (31, t31), (32, t32), (34, t34), (36, t36), (37, t37), (38, t38), (39, t39), (40, t40), (41, t41), (43, t43), (45, t45), (47, t47), (49, t49), (50, t50), (51, t51), (52, t52), (53, t53), (55, t55), (56, t56), (57, t57), (58, t58), (59, t59), (60, t60), (61, t61), (62, t62), (63, t63), (64, t64), (65, t65), (66, t66), (67, t67), (68, t68), (69, t69), (70, t70), (71, t71), (73, t73), (74, t74), (75, t75), (77, t77), (79, t79), (80, t80), (82, t82), (84, t84), (85, t85), (86, t86), (87, t87), (88, t88), (89, t89), (90, t90), (91, t91), (92, t92), (93, t93), (94, t94), (95, t95), (96, t96), (97, t97), (98, t98), (99, t99), (101, t101), (102, t102), (103, t103), (104, t104), (105, t105), (106, t106), (108, t108), (109, t109), (111, t111), (112, t112), (113, t113), (114, t114), (115, t115), (116, t116), (117, t117), (118, t118), (120, t120), (121, t121), (122, t122), (123, t123), (124, t124), (125, t125), (126, t126), (134, t134), (135, t135)]
theorem okT : ∀ e ∈ T, TI.ok Try.prog e.1 e.2 :=
  List.forall_mem_cons.2 ⟨ok1, List.forall_mem_cons.2 ⟨ok2, List.forall_mem_cons.2 ⟨ok3, List.forall_mem_cons.2 ⟨ok4, List.forall_mem_cons.2 ⟨ok5, List.forall_mem_cons.2 ⟨ok9, List.forall_mem_cons.2 ⟨ok12, List.forall_mem_cons.2 ⟨ok13, List.forall_mem_cons.2 ⟨ok20, List.forall_mem_cons.2 ⟨ok21, List.forall_mem_cons.2 ⟨ok22, List.forall_mem_cons.2 ⟨ok23, List.forall_mem_cons.2 ⟨ok24, List.forall_mem_cons.2 ⟨ok25, List.forall_mem_cons.2 ⟨ok26, List.forall_mem_cons.2 ⟨ok27, List.forall_mem_cons.2 ⟨ok28, List.forall_mem_cons.2 ⟨ok29, List.forall_mem_cons.2 ⟨ok30, List.forall_mem_cons.2 ⟨ok31, List.forall_mem_cons.2 ⟨ok32, List.forall_mem_cons.2 ⟨ok34, List.forall_mem_cons.2 ⟨ok36, List.forall_mem_cons.2 ⟨ok37, List.forall_mem_cons.2 ⟨ok38, List.forall_mem_cons.2 ⟨ok39, List.forall_mem_cons.2 ⟨ok40, List.forall_mem_cons.2 ⟨ok41, List.forall_mem_cons.2 ⟨ok43, List.forall_mem_cons.2 ⟨ok45, List.forall_mem_cons.2 ⟨ok47, List.forall_mem_cons.2 ⟨ok49, List.forall_mem_cons.2 ⟨ok50, List.forall_mem_cons.2 ⟨ok51, List.forall_mem_cons.2 ⟨ok52, List.forall_mem_cons.2 ⟨ok53, List.forall_mem_cons.2 ⟨ok55, List.forall_mem_cons.2 ⟨ok56, List.forall_mem_cons.2 ⟨ok57, List.forall_mem_cons.2 ⟨ok58, List.forall_mem_cons.2 ⟨ok59, List.forall_mem_cons.2 ⟨ok60, List.forall_mem_cons.2 ⟨ok61, List.forall_mem_cons.2 ⟨ok62, List.forall_mem_cons.2 ⟨ok63, List.forall_mem_cons.2 ⟨ok64, List.forall_mem_cons.2 ⟨ok65, List.forall_mem_cons.2 ⟨ok66, List.forall_mem_cons.2 ⟨ok67, List.forall_mem_cons.2 ⟨ok68, List.forall_mem_cons.2 ⟨ok69, List.forall_mem_cons.2 ⟨ok70, List.forall_mem_cons.2 ⟨ok71, List.forall_mem_cons.2 ⟨ok73, List.forall_mem_cons.2 ⟨ok74, List.forall_mem_cons.2 ⟨ok75, List.forall_mem_cons.2 ⟨ok77, List.forall_mem_cons.2 ⟨ok79, List.forall_mem_cons.2 ⟨ok80, List.forall_mem_cons.2 ⟨ok82, List.forall_mem_cons.2 ⟨ok84, List.forall_mem_cons.2 ⟨ok85, List.forall_mem_cons.2 ⟨ok86, List.forall_mem_cons.2 ⟨ok87, List.forall_mem_cons.2 ⟨ok88, List.forall_mem_cons.2 ⟨ok89, List.forall_mem_cons.2 ⟨ok90, List.forall_mem_cons.2 ⟨ok91, List.forall_mem_cons.2 ⟨ok92, List.forall_mem_cons.2 ⟨ok93, List.forall_mem_cons.2 ⟨ok94, List.forall_mem_cons.2 ⟨ok95, List.forall_mem_cons.2 ⟨ok96, List.forall_mem_cons.2 ⟨ok97, List.forall_mem_cons.2 ⟨ok98, List.forall_mem_cons.2 ⟨ok99, List.forall_mem_cons.2 ⟨ok101, List.forall_mem_cons.2 ⟨ok102, List.forall_mem_cons.2 ⟨ok103, List.forall_mem_cons.2 ⟨ok104, List.forall_mem_cons.2 ⟨ok105, List.forall_mem_cons.2 ⟨ok106, List.forall_mem_cons.2 ⟨ok108, List.forall_mem_cons.2 ⟨ok109, List.forall_mem_cons.2 ⟨ok111, List.forall_mem_cons.2 ⟨ok112, List.forall_mem_cons.2 ⟨ok113, List.forall_mem_cons.2 ⟨ok114, List.forall_mem_cons.2 ⟨ok115, List.forall_mem_cons.2 ⟨ok116, List.forall_mem_cons.2 ⟨ok117, List.forall_mem_cons.2 ⟨ok118, List.forall_mem_cons.2 ⟨ok120, List.forall_mem_cons.2 ⟨ok121, List.forall_mem_cons.2 ⟨ok122, List.forall_mem_cons.2 ⟨ok123, List.forall_mem_cons.2 ⟨ok124, List.forall_mem_cons.2 ⟨ok125, List.forall_mem_cons.2 ⟨ok126, List.forall_mem_cons.2 ⟨ok134, List.forall_mem_cons.2 ⟨ok135, fun _ h => nomatch h⟩⟩⟩⟩⟩⟩⟩⟩⟩⟩⟩⟩⟩⟩⟩⟩⟩⟩⟩⟩⟩⟩⟩⟩⟩⟩⟩⟩⟩⟩⟩⟩⟩⟩⟩⟩⟩⟩⟩⟩⟩⟩⟩⟩⟩⟩⟩⟩⟩⟩⟩⟩⟩⟩⟩⟩⟩⟩⟩⟩⟩⟩⟩⟩⟩⟩⟩⟩⟩⟩⟩⟩⟩⟩⟩⟩⟩⟩⟩⟩⟩⟩⟩⟩⟩⟩⟩⟩⟩⟩⟩⟩⟩⟩⟩⟩⟩⟩⟩⟩⟩
noncomputable def E : Env := { P := Try.prog, T := T, hT := okT, G := fun _ => none, mixed := by kernel_rfl }
end Try
end Go.Gp

/- The octet codec: the walks. -/
namespace Go.Gp.Try
open Go.Proofs
set_option linter.unusedVariables false
set_option linter.unusedSimpArgs false
set_option maxHeartbeats 4000000

theorem must_A (H : List AObj) : CallsA E 59 [.bool true] H (Is H (.tup [])) := by
  refine .enter Try.func59 rfl rfl rfl 6 Try.ntmps59 (Nat.le_of_ble_eq_true rfl) ?_
  repeat' first
    | refine WpA.seq ?_
    | refine WpA.region ?_
    | refine WpOps.op _ rfl rfl rfl rfl rfl ?_
    | refine WpOps.box _ rfl rfl rfl rfl rfl ?_
    | refine WpOps.alloc _ rfl rfl rfl rfl rfl rfl ?_
    | refine WpOps.store rfl rfl rfl rfl rfl rfl rfl rfl rfl rfl ?_
    | refine WpOps.skip rfl rfl rfl ?_
    | refine WpOps.build _ rfl rfl rfl rfl rfl ?_
    | refine WpOps.sh _ rfl rfl rfl rfl rfl ?_
    | refine WpOps.gsplit _ rfl rfl rfl (fun h => ?_) (fun h => ?_)
    | refine WpA.block ?_
    | refine WpA.exit ?_
    | refine WpOps.nil ?_
    | refine WpA.ret ?_
    | refine WpA.skip ?_
    | refine WpA.condT rfl ?_
    | refine WpA.condF rfl ?_
    | refine WpA.cond _ rfl (fun h => ?_) (fun h => ?_)
    | refine WpA.draw (by kernel_rfl) ?_
    | refine LexA.op _ rfl rfl rfl rfl rfl ?_
    | refine LexA.skip rfl rfl rfl ?_
    | refine LexA.build _ rfl rfl rfl rfl rfl ?_
    | refine LexA.sh _ rfl rfl rfl rfl rfl ?_
    | refine LexA.gsplit _ rfl rfl rfl (fun h => ?_) (fun h => ?_)
    | refine LexA.nil ?_
  exact retK.ok rfl rfl rfl (.tup (by simp))

theorem mustNot_A (H : List AObj) : CallsA E 59 [.bool false] H (Dies H (.iface 99 (.agg []))) := by
  refine .enter Try.func59 rfl rfl rfl 6 Try.ntmps59 (Nat.le_of_ble_eq_true rfl) ?_
  repeat' first
    | refine WpA.seq ?_
    | refine WpA.region ?_
    | refine WpOps.op _ rfl rfl rfl rfl rfl ?_
    | refine WpOps.box _ rfl rfl rfl rfl rfl ?_
    | refine WpOps.alloc _ rfl rfl rfl rfl rfl rfl ?_
    | refine WpOps.store rfl rfl rfl rfl rfl rfl rfl rfl rfl rfl ?_
    | refine WpOps.skip rfl rfl rfl ?_
    | refine WpOps.build _ rfl rfl rfl rfl rfl ?_
    | refine WpOps.sh _ rfl rfl rfl rfl rfl ?_
    | refine WpOps.iface _ rfl rfl rfl rfl rfl (by intro h; cases h) rfl ?_
    | refine WpOps.panic rfl rfl rfl ?_
    | refine WpOps.gsplit _ rfl rfl rfl (fun h => ?_) (fun h => ?_)
    | refine WpA.block ?_
    | refine WpA.exit ?_
    | refine WpOps.nil ?_
    | refine WpA.ret ?_
    | refine WpA.skip ?_
    | refine WpA.condT rfl ?_
    | refine WpA.condF rfl ?_
    | refine WpA.cond _ rfl (fun h => ?_) (fun h => ?_)
    | refine WpA.draw (by kernel_rfl) ?_
    | refine LexA.op _ rfl rfl rfl rfl rfl ?_
    | refine LexA.skip rfl rfl rfl ?_
    | refine LexA.build _ rfl rfl rfl rfl rfl ?_
    | refine LexA.sh _ rfl rfl rfl rfl rfl ?_
    | refine LexA.gsplit _ rfl rfl rfl (fun h => ?_) (fun h => ?_)
    | refine LexA.nil ?_
  exact retK.dies rfl (.iface (.agg (by simp)))

/-- How many bits a number has. -/
def bitLen (x : Nat) : Nat := if x = 0 then 0 else Nat.log2 x + 1

theorem bitLen_shift {x k : Nat} (h : 2 ^ k ≤ x) : bitLen x = bitLen (x / 2 ^ k) + k := by
  have hp : 0 < 2 ^ k := Nat.two_pow_pos k
  have h1 : 0 < x / 2 ^ k := Nat.div_pos h hp
  have hx : x ≠ 0 := by omega
  have hl : Nat.log2 x = Nat.log2 (x / 2 ^ k) + k := by
    rw [Nat.log2_eq_iff hx]
    have h2 := Nat.log2_self_le (n := x / 2 ^ k) (by omega)
    have h3 := Nat.lt_log2_self (n := x / 2 ^ k)
    constructor
    · rw [Nat.pow_add]
      calc 2 ^ Nat.log2 (x / 2 ^ k) * 2 ^ k ≤ x / 2 ^ k * 2 ^ k := Nat.mul_le_mul_right _ h2
        _ ≤ x := Nat.div_mul_le_self _ _
    · rw [show Nat.log2 (x / 2 ^ k) + k + 1 = (Nat.log2 (x / 2 ^ k) + 1) + k from by omega, Nat.pow_add]
      exact (Nat.div_lt_iff_lt_mul hp).1 h3
  unfold bitLen
  rw [if_neg hx, if_neg (by omega), hl]
  omega

def lenTab : List UInt8 := (List.range 256).map fun y => UInt8.ofNat (bitLen y)

theorem lenTab_get {y : Nat} (h : y < 256) : lenTab[((y : Nat) : Int).toNat]? = some (UInt8.ofNat (bitLen y)) := by
  rw [Int.toNat_natCast, lenTab, List.getElem?_map, List.getElem?_range h]
  rfl

theorem bitLen_lt {x k : Nat} (h : x < 2 ^ k) : bitLen x ≤ k := by
  unfold bitLen
  split
  · omega
  · rename_i hx
    have := (Nat.log2_lt hx).2 h
    omega

theorem fdiv_nat (x k : Nat) : ((x : Int)).fdiv (2 ^ k) = ((x / 2 ^ k : Nat) : Int) := by
  have : ((2 : Int) ^ k) = ((2 ^ k : Nat) : Int) := by simp
  rw [this, Int.fdiv_eq_ediv_of_nonneg _ (Int.natCast_nonneg _)]
  rfl

theorem m32 : min 32 IntKind.u64.bits = 32 := rfl
theorem m16 : min 16 IntKind.u64.bits = 16 := rfl
theorem m8 : min 8 IntKind.u64.bits = 8 := rfl
theorem wrapu8 {x : Int} (h1 : 0 ≤ x) (h2 : x < 256) : IntKind.u8.wrap x = x := by
  simp only [IntKind.wrap, IntKind.bits, IntKind.signed]
  simp
  omega

theorem Len64_A (x : Nat) (H : List AObj) (hx : x < 18446744073709551616) : CallsA E 48 [.int .u64 x] H (Is H (.int .i64 (bitLen x))) := by
  refine .enter Try.func48 rfl rfl rfl 25 Try.ntmps48 (Nat.le_of_ble_eq_true rfl) ?_
  repeat' first
    | refine WpA.seq ?_
    | refine WpA.region ?_
    | refine WpOps.op _ rfl rfl rfl rfl rfl ?_
    | refine WpOps.box _ rfl rfl rfl rfl rfl ?_
    | refine WpOps.alloc _ rfl rfl rfl rfl rfl rfl ?_
    | refine WpOps.store rfl rfl rfl rfl rfl rfl rfl rfl rfl rfl ?_
    | refine WpOps.skip rfl rfl rfl ?_
    | refine WpOps.build _ rfl rfl rfl rfl rfl ?_
    | refine WpOps.sh _ rfl rfl rfl rfl rfl ?_
    | refine WpOps.gsplit _ rfl rfl rfl (fun h => ?_) (fun h => ?_)
    | refine WpA.block ?_
    | refine WpA.exit ?_
    | refine WpOps.nil ?_
    | refine WpA.ret ?_
    | refine WpA.skip ?_
    | refine WpA.condT rfl ?_
    | refine WpA.condF rfl ?_
    | refine WpA.cond _ rfl (fun h => ?_) (fun h => ?_)
    | refine WpA.draw (by kernel_rfl) ?_
    | refine LexA.op _ rfl rfl rfl rfl rfl ?_
    | refine LexA.skip rfl rfl rfl ?_
    | refine LexA.build _ rfl rfl rfl rfl rfl ?_
    | refine LexA.sh _ rfl rfl rfl rfl rfl ?_
    | refine LexA.gsplit _ rfl rfl rfl (fun h => ?_) (fun h => ?_)
    | refine LexA.nil ?_
  · simp only [m32, m16, m8, fdiv_nat, decide_eq_true_eq, decide_eq_false_iff_not] at *
    have hlt : x / 2 ^ 32 / 2 ^ 16 / 2 ^ 8 < 256 := by omega
    have hs : bitLen x = bitLen (x / 2 ^ 32 / 2 ^ 16 / 2 ^ 8) + 56 := by rw [bitLen_shift (x := x) (k := 32) (by omega), bitLen_shift (x := x / 2 ^ 32) (k := 16) (by omega), bitLen_shift (x := x / 2 ^ 32 / 2 ^ 16) (k := 8) (by omega)]
    have h8 := bitLen_lt (x := x / 2 ^ 32 / 2 ^ 16 / 2 ^ 8) (k := 8) hlt
    refine WpOps.indexS (s := lenTab) (UInt8.ofNat (bitLen (x / 2 ^ 32 / 2 ^ 16 / 2 ^ 8))) rfl rfl rfl rfl rfl (by kernel_rfl) rfl ?_ ?_ ?_
    · show 0 ≤ IntKind.u8.wrap ((x / 2 ^ 32 / 2 ^ 16 / 2 ^ 8 : Nat) : Int)
      rw [wrapu8 (by omega) (by omega)]; omega
    · show lenTab[(IntKind.u8.wrap ((x / 2 ^ 32 / 2 ^ 16 / 2 ^ 8 : Nat) : Int)).toNat]? = _
      rw [wrapu8 (by omega) (by omega)]; exact lenTab_get hlt
    repeat' first
      | refine WpA.seq ?_
      | refine WpA.region ?_
      | refine WpOps.op _ rfl rfl rfl rfl rfl ?_
      | refine WpOps.box _ rfl rfl rfl rfl rfl ?_
      | refine WpOps.alloc _ rfl rfl rfl rfl rfl rfl ?_
      | refine WpOps.store rfl rfl rfl rfl rfl rfl rfl rfl rfl rfl ?_
      | refine WpOps.skip rfl rfl rfl ?_
      | refine WpOps.build _ rfl rfl rfl rfl rfl ?_
      | refine WpOps.sh _ rfl rfl rfl rfl rfl ?_
      | refine WpOps.gsplit _ rfl rfl rfl (fun h => ?_) (fun h => ?_)
      | refine WpA.block ?_
      | refine WpA.exit ?_
      | refine WpOps.nil ?_
      | refine WpA.ret ?_
      | refine WpA.skip ?_
      | refine WpA.condT rfl ?_
      | refine WpA.condF rfl ?_
      | refine WpA.cond _ rfl (fun h => ?_) (fun h => ?_)
      | refine WpA.draw (by kernel_rfl) ?_
      | refine LexA.op _ rfl rfl rfl rfl rfl ?_
      | refine LexA.skip rfl rfl rfl ?_
      | refine LexA.build _ rfl rfl rfl rfl rfl ?_
      | refine LexA.sh _ rfl rfl rfl rfl rfl ?_
      | refine LexA.gsplit _ rfl rfl rfl (fun h => ?_) (fun h => ?_)
      | refine LexA.nil ?_
    refine retK.ok rfl rfl (congrArg (AV.int .i64) ?_) .int
    show IntKind.i64.wrap (56 + IntKind.i64.wrap ((UInt8.ofNat (bitLen (x / 2 ^ 32 / 2 ^ 16 / 2 ^ 8))).toNat : Int)) = _
    rw [hs, UInt8.toNat_ofNat', Nat.mod_eq_of_lt (by omega), wrap64 (x := ((bitLen (x / 2 ^ 32 / 2 ^ 16 / 2 ^ 8) : Nat) : Int)) (by omega) (by omega), wrap64 (by omega) (by omega)]
    omega
  · simp only [m32, m16, m8, fdiv_nat, decide_eq_true_eq, decide_eq_false_iff_not] at *
    have hlt : x / 2 ^ 32 / 2 ^ 16 < 256 := by omega
    have hs : bitLen x = bitLen (x / 2 ^ 32 / 2 ^ 16) + 48 := by rw [bitLen_shift (x := x) (k := 32) (by omega), bitLen_shift (x := x / 2 ^ 32) (k := 16) (by omega)]
    have h8 := bitLen_lt (x := x / 2 ^ 32 / 2 ^ 16) (k := 8) hlt
    refine WpOps.indexS (s := lenTab) (UInt8.ofNat (bitLen (x / 2 ^ 32 / 2 ^ 16))) rfl rfl rfl rfl rfl (by kernel_rfl) rfl ?_ ?_ ?_
    · show 0 ≤ IntKind.u8.wrap ((x / 2 ^ 32 / 2 ^ 16 : Nat) : Int)
      rw [wrapu8 (by omega) (by omega)]; omega
    · show lenTab[(IntKind.u8.wrap ((x / 2 ^ 32 / 2 ^ 16 : Nat) : Int)).toNat]? = _
      rw [wrapu8 (by omega) (by omega)]; exact lenTab_get hlt
    repeat' first
      | refine WpA.seq ?_
      | refine WpA.region ?_
      | refine WpOps.op _ rfl rfl rfl rfl rfl ?_
      | refine WpOps.box _ rfl rfl rfl rfl rfl ?_
      | refine WpOps.alloc _ rfl rfl rfl rfl rfl rfl ?_
      | refine WpOps.store rfl rfl rfl rfl rfl rfl rfl rfl rfl rfl ?_
      | refine WpOps.skip rfl rfl rfl ?_
      | refine WpOps.build _ rfl rfl rfl rfl rfl ?_
      | refine WpOps.sh _ rfl rfl rfl rfl rfl ?_
      | refine WpOps.gsplit _ rfl rfl rfl (fun h => ?_) (fun h => ?_)
      | refine WpA.block ?_
      | refine WpA.exit ?_
      | refine WpOps.nil ?_
      | refine WpA.ret ?_
      | refine WpA.skip ?_
      | refine WpA.condT rfl ?_
      | refine WpA.condF rfl ?_
      | refine WpA.cond _ rfl (fun h => ?_) (fun h => ?_)
      | refine WpA.draw (by kernel_rfl) ?_
      | refine LexA.op _ rfl rfl rfl rfl rfl ?_
      | refine LexA.skip rfl rfl rfl ?_
      | refine LexA.build _ rfl rfl rfl rfl rfl ?_
      | refine LexA.sh _ rfl rfl rfl rfl rfl ?_
      | refine LexA.gsplit _ rfl rfl rfl (fun h => ?_) (fun h => ?_)
      | refine LexA.nil ?_
    refine retK.ok rfl rfl (congrArg (AV.int .i64) ?_) .int
    show IntKind.i64.wrap (48 + IntKind.i64.wrap ((UInt8.ofNat (bitLen (x / 2 ^ 32 / 2 ^ 16))).toNat : Int)) = _
    rw [hs, UInt8.toNat_ofNat', Nat.mod_eq_of_lt (by omega), wrap64 (x := ((bitLen (x / 2 ^ 32 / 2 ^ 16) : Nat) : Int)) (by omega) (by omega), wrap64 (by omega) (by omega)]
    omega
  · simp only [m32, m16, m8, fdiv_nat, decide_eq_true_eq, decide_eq_false_iff_not] at *
    have hlt : x / 2 ^ 32 / 2 ^ 8 < 256 := by omega
    have hs : bitLen x = bitLen (x / 2 ^ 32 / 2 ^ 8) + 40 := by rw [bitLen_shift (x := x) (k := 32) (by omega), bitLen_shift (x := x / 2 ^ 32) (k := 8) (by omega)]
    have h8 := bitLen_lt (x := x / 2 ^ 32 / 2 ^ 8) (k := 8) hlt
    refine WpOps.indexS (s := lenTab) (UInt8.ofNat (bitLen (x / 2 ^ 32 / 2 ^ 8))) rfl rfl rfl rfl rfl (by kernel_rfl) rfl ?_ ?_ ?_
    · show 0 ≤ IntKind.u8.wrap ((x / 2 ^ 32 / 2 ^ 8 : Nat) : Int)
      rw [wrapu8 (by omega) (by omega)]; omega
    · show lenTab[(IntKind.u8.wrap ((x / 2 ^ 32 / 2 ^ 8 : Nat) : Int)).toNat]? = _
      rw [wrapu8 (by omega) (by omega)]; exact lenTab_get hlt
    repeat' first
      | refine WpA.seq ?_
      | refine WpA.region ?_
      | refine WpOps.op _ rfl rfl rfl rfl rfl ?_
      | refine WpOps.box _ rfl rfl rfl rfl rfl ?_
      | refine WpOps.alloc _ rfl rfl rfl rfl rfl rfl ?_
      | refine WpOps.store rfl rfl rfl rfl rfl rfl rfl rfl rfl rfl ?_
      | refine WpOps.skip rfl rfl rfl ?_
      | refine WpOps.build _ rfl rfl rfl rfl rfl ?_
      | refine WpOps.sh _ rfl rfl rfl rfl rfl ?_
      | refine WpOps.gsplit _ rfl rfl rfl (fun h => ?_) (fun h => ?_)
      | refine WpA.block ?_
      | refine WpA.exit ?_
      | refine WpOps.nil ?_
      | refine WpA.ret ?_
      | refine WpA.skip ?_
      | refine WpA.condT rfl ?_
      | refine WpA.condF rfl ?_
      | refine WpA.cond _ rfl (fun h => ?_) (fun h => ?_)
      | refine WpA.draw (by kernel_rfl) ?_
      | refine LexA.op _ rfl rfl rfl rfl rfl ?_
      | refine LexA.skip rfl rfl rfl ?_
      | refine LexA.build _ rfl rfl rfl rfl rfl ?_
      | refine LexA.sh _ rfl rfl rfl rfl rfl ?_
      | refine LexA.gsplit _ rfl rfl rfl (fun h => ?_) (fun h => ?_)
      | refine LexA.nil ?_
    refine retK.ok rfl rfl (congrArg (AV.int .i64) ?_) .int
    show IntKind.i64.wrap (40 + IntKind.i64.wrap ((UInt8.ofNat (bitLen (x / 2 ^ 32 / 2 ^ 8))).toNat : Int)) = _
    rw [hs, UInt8.toNat_ofNat', Nat.mod_eq_of_lt (by omega), wrap64 (x := ((bitLen (x / 2 ^ 32 / 2 ^ 8) : Nat) : Int)) (by omega) (by omega), wrap64 (by omega) (by omega)]
    omega
  · simp only [m32, m16, m8, fdiv_nat, decide_eq_true_eq, decide_eq_false_iff_not] at *
    have hlt : x / 2 ^ 32 < 256 := by omega
    have hs : bitLen x = bitLen (x / 2 ^ 32) + 32 := by rw [bitLen_shift (x := x) (k := 32) (by omega)]
    have h8 := bitLen_lt (x := x / 2 ^ 32) (k := 8) hlt
    refine WpOps.indexS (s := lenTab) (UInt8.ofNat (bitLen (x / 2 ^ 32))) rfl rfl rfl rfl rfl (by kernel_rfl) rfl ?_ ?_ ?_
    · show 0 ≤ IntKind.u8.wrap ((x / 2 ^ 32 : Nat) : Int)
      rw [wrapu8 (by omega) (by omega)]; omega
    · show lenTab[(IntKind.u8.wrap ((x / 2 ^ 32 : Nat) : Int)).toNat]? = _
      rw [wrapu8 (by omega) (by omega)]; exact lenTab_get hlt
    repeat' first
      | refine WpA.seq ?_
      | refine WpA.region ?_
      | refine WpOps.op _ rfl rfl rfl rfl rfl ?_
      | refine WpOps.box _ rfl rfl rfl rfl rfl ?_
      | refine WpOps.alloc _ rfl rfl rfl rfl rfl rfl ?_
      | refine WpOps.store rfl rfl rfl rfl rfl rfl rfl rfl rfl rfl ?_
      | refine WpOps.skip rfl rfl rfl ?_
      | refine WpOps.build _ rfl rfl rfl rfl rfl ?_
      | refine WpOps.sh _ rfl rfl rfl rfl rfl ?_
      | refine WpOps.gsplit _ rfl rfl rfl (fun h => ?_) (fun h => ?_)
      | refine WpA.block ?_
      | refine WpA.exit ?_
      | refine WpOps.nil ?_
      | refine WpA.ret ?_
      | refine WpA.skip ?_
      | refine WpA.condT rfl ?_
      | refine WpA.condF rfl ?_
      | refine WpA.cond _ rfl (fun h => ?_) (fun h => ?_)
      | refine WpA.draw (by kernel_rfl) ?_
      | refine LexA.op _ rfl rfl rfl rfl rfl ?_
      | refine LexA.skip rfl rfl rfl ?_
      | refine LexA.build _ rfl rfl rfl rfl rfl ?_
      | refine LexA.sh _ rfl rfl rfl rfl rfl ?_
      | refine LexA.gsplit _ rfl rfl rfl (fun h => ?_) (fun h => ?_)
      | refine LexA.nil ?_
    refine retK.ok rfl rfl (congrArg (AV.int .i64) ?_) .int
    show IntKind.i64.wrap (32 + IntKind.i64.wrap ((UInt8.ofNat (bitLen (x / 2 ^ 32))).toNat : Int)) = _
    rw [hs, UInt8.toNat_ofNat', Nat.mod_eq_of_lt (by omega), wrap64 (x := ((bitLen (x / 2 ^ 32) : Nat) : Int)) (by omega) (by omega), wrap64 (by omega) (by omega)]
    omega
  · simp only [m32, m16, m8, fdiv_nat, decide_eq_true_eq, decide_eq_false_iff_not] at *
    have hlt : x / 2 ^ 16 / 2 ^ 8 < 256 := by omega
    have hs : bitLen x = bitLen (x / 2 ^ 16 / 2 ^ 8) + 24 := by rw [bitLen_shift (x := x) (k := 16) (by omega), bitLen_shift (x := x / 2 ^ 16) (k := 8) (by omega)]
    have h8 := bitLen_lt (x := x / 2 ^ 16 / 2 ^ 8) (k := 8) hlt
    refine WpOps.indexS (s := lenTab) (UInt8.ofNat (bitLen (x / 2 ^ 16 / 2 ^ 8))) rfl rfl rfl rfl rfl (by kernel_rfl) rfl ?_ ?_ ?_
    · show 0 ≤ IntKind.u8.wrap ((x / 2 ^ 16 / 2 ^ 8 : Nat) : Int)
      rw [wrapu8 (by omega) (by omega)]; omega
    · show lenTab[(IntKind.u8.wrap ((x / 2 ^ 16 / 2 ^ 8 : Nat) : Int)).toNat]? = _
      rw [wrapu8 (by omega) (by omega)]; exact lenTab_get hlt
    repeat' first
      | refine WpA.seq ?_
      | refine WpA.region ?_
      | refine WpOps.op _ rfl rfl rfl rfl rfl ?_
      | refine WpOps.box _ rfl rfl rfl rfl rfl ?_
      | refine WpOps.alloc _ rfl rfl rfl rfl rfl rfl ?_
      | refine WpOps.store rfl rfl rfl rfl rfl rfl rfl rfl rfl rfl ?_
      | refine WpOps.skip rfl rfl rfl ?_
      | refine WpOps.build _ rfl rfl rfl rfl rfl ?_
      | refine WpOps.sh _ rfl rfl rfl rfl rfl ?_
      | refine WpOps.gsplit _ rfl rfl rfl (fun h => ?_) (fun h => ?_)
      | refine WpA.block ?_
      | refine WpA.exit ?_
      | refine WpOps.nil ?_
      | refine WpA.ret ?_
      | refine WpA.skip ?_
      | refine WpA.condT rfl ?_
      | refine WpA.condF rfl ?_
      | refine WpA.cond _ rfl (fun h => ?_) (fun h => ?_)
      | refine WpA.draw (by kernel_rfl) ?_
      | refine LexA.op _ rfl rfl rfl rfl rfl ?_
      | refine LexA.skip rfl rfl rfl ?_
      | refine LexA.build _ rfl rfl rfl rfl rfl ?_
      | refine LexA.sh _ rfl rfl rfl rfl rfl ?_
      | refine LexA.gsplit _ rfl rfl rfl (fun h => ?_) (fun h => ?_)
      | refine LexA.nil ?_
    refine retK.ok rfl rfl (congrArg (AV.int .i64) ?_) .int
    show IntKind.i64.wrap (24 + IntKind.i64.wrap ((UInt8.ofNat (bitLen (x / 2 ^ 16 / 2 ^ 8))).toNat : Int)) = _
    rw [hs, UInt8.toNat_ofNat', Nat.mod_eq_of_lt (by omega), wrap64 (x := ((bitLen (x / 2 ^ 16 / 2 ^ 8) : Nat) : Int)) (by omega) (by omega), wrap64 (by omega) (by omega)]
    omega
  · simp only [m32, m16, m8, fdiv_nat, decide_eq_true_eq, decide_eq_false_iff_not] at *
    have hlt : x / 2 ^ 16 < 256 := by omega
    have hs : bitLen x = bitLen (x / 2 ^ 16) + 16 := by rw [bitLen_shift (x := x) (k := 16) (by omega)]
    have h8 := bitLen_lt (x := x / 2 ^ 16) (k := 8) hlt
    refine WpOps.indexS (s := lenTab) (UInt8.ofNat (bitLen (x / 2 ^ 16))) rfl rfl rfl rfl rfl (by kernel_rfl) rfl ?_ ?_ ?_
    · show 0 ≤ IntKind.u8.wrap ((x / 2 ^ 16 : Nat) : Int)
      rw [wrapu8 (by omega) (by omega)]; omega
    · show lenTab[(IntKind.u8.wrap ((x / 2 ^ 16 : Nat) : Int)).toNat]? = _
      rw [wrapu8 (by omega) (by omega)]; exact lenTab_get hlt
    repeat' first
      | refine WpA.seq ?_
      | refine WpA.region ?_
      | refine WpOps.op _ rfl rfl rfl rfl rfl ?_
      | refine WpOps.box _ rfl rfl rfl rfl rfl ?_
      | refine WpOps.alloc _ rfl rfl rfl rfl rfl rfl ?_
      | refine WpOps.store rfl rfl rfl rfl rfl rfl rfl rfl rfl rfl ?_
      | refine WpOps.skip rfl rfl rfl ?_
      | refine WpOps.build _ rfl rfl rfl rfl rfl ?_
      | refine WpOps.sh _ rfl rfl rfl rfl rfl ?_
      | refine WpOps.gsplit _ rfl rfl rfl (fun h => ?_) (fun h => ?_)
      | refine WpA.block ?_
      | refine WpA.exit ?_
      | refine WpOps.nil ?_
      | refine WpA.ret ?_
      | refine WpA.skip ?_
      | refine WpA.condT rfl ?_
      | refine WpA.condF rfl ?_
      | refine WpA.cond _ rfl (fun h => ?_) (fun h => ?_)
      | refine WpA.draw (by kernel_rfl) ?_
      | refine LexA.op _ rfl rfl rfl rfl rfl ?_
      | refine LexA.skip rfl rfl rfl ?_
      | refine LexA.build _ rfl rfl rfl rfl rfl ?_
      | refine LexA.sh _ rfl rfl rfl rfl rfl ?_
      | refine LexA.gsplit _ rfl rfl rfl (fun h => ?_) (fun h => ?_)
      | refine LexA.nil ?_
    refine retK.ok rfl rfl (congrArg (AV.int .i64) ?_) .int
    show IntKind.i64.wrap (16 + IntKind.i64.wrap ((UInt8.ofNat (bitLen (x / 2 ^ 16))).toNat : Int)) = _
    rw [hs, UInt8.toNat_ofNat', Nat.mod_eq_of_lt (by omega), wrap64 (x := ((bitLen (x / 2 ^ 16) : Nat) : Int)) (by omega) (by omega), wrap64 (by omega) (by omega)]
    omega
  · simp only [m32, m16, m8, fdiv_nat, decide_eq_true_eq, decide_eq_false_iff_not] at *
    have hlt : x / 2 ^ 8 < 256 := by omega
    have hs : bitLen x = bitLen (x / 2 ^ 8) + 8 := by rw [bitLen_shift (x := x) (k := 8) (by omega)]
    have h8 := bitLen_lt (x := x / 2 ^ 8) (k := 8) hlt
    refine WpOps.indexS (s := lenTab) (UInt8.ofNat (bitLen (x / 2 ^ 8))) rfl rfl rfl rfl rfl (by kernel_rfl) rfl ?_ ?_ ?_
    · show 0 ≤ IntKind.u8.wrap ((x / 2 ^ 8 : Nat) : Int)
      rw [wrapu8 (by omega) (by omega)]; omega
    · show lenTab[(IntKind.u8.wrap ((x / 2 ^ 8 : Nat) : Int)).toNat]? = _
      rw [wrapu8 (by omega) (by omega)]; exact lenTab_get hlt
    repeat' first
      | refine WpA.seq ?_
      | refine WpA.region ?_
      | refine WpOps.op _ rfl rfl rfl rfl rfl ?_
      | refine WpOps.box _ rfl rfl rfl rfl rfl ?_
      | refine WpOps.alloc _ rfl rfl rfl rfl rfl rfl ?_
      | refine WpOps.store rfl rfl rfl rfl rfl rfl rfl rfl rfl rfl ?_
      | refine WpOps.skip rfl rfl rfl ?_
      | refine WpOps.build _ rfl rfl rfl rfl rfl ?_
      | refine WpOps.sh _ rfl rfl rfl rfl rfl ?_
      | refine WpOps.gsplit _ rfl rfl rfl (fun h => ?_) (fun h => ?_)
      | refine WpA.block ?_
      | refine WpA.exit ?_
      | refine WpOps.nil ?_
      | refine WpA.ret ?_
      | refine WpA.skip ?_
      | refine WpA.condT rfl ?_
      | refine WpA.condF rfl ?_
      | refine WpA.cond _ rfl (fun h => ?_) (fun h => ?_)
      | refine WpA.draw (by kernel_rfl) ?_
      | refine LexA.op _ rfl rfl rfl rfl rfl ?_
      | refine LexA.skip rfl rfl rfl ?_
      | refine LexA.build _ rfl rfl rfl rfl rfl ?_
      | refine LexA.sh _ rfl rfl rfl rfl rfl ?_
      | refine LexA.gsplit _ rfl rfl rfl (fun h => ?_) (fun h => ?_)
      | refine LexA.nil ?_
    refine retK.ok rfl rfl (congrArg (AV.int .i64) ?_) .int
    show IntKind.i64.wrap (8 + IntKind.i64.wrap ((UInt8.ofNat (bitLen (x / 2 ^ 8))).toNat : Int)) = _
    rw [hs, UInt8.toNat_ofNat', Nat.mod_eq_of_lt (by omega), wrap64 (x := ((bitLen (x / 2 ^ 8) : Nat) : Int)) (by omega) (by omega), wrap64 (by omega) (by omega)]
    omega
  · simp only [m32, m16, m8, fdiv_nat, decide_eq_true_eq, decide_eq_false_iff_not] at *
    have hlt : x < 256 := by omega
    have hs : True := trivial
    have h8 := bitLen_lt (x := x) (k := 8) hlt
    refine WpOps.indexS (s := lenTab) (UInt8.ofNat (bitLen (x))) rfl rfl rfl rfl rfl (by kernel_rfl) rfl ?_ ?_ ?_
    · show 0 ≤ IntKind.u8.wrap ((x : Nat) : Int)
      rw [wrapu8 (by omega) (by omega)]; omega
    · show lenTab[(IntKind.u8.wrap ((x : Nat) : Int)).toNat]? = _
      rw [wrapu8 (by omega) (by omega)]; exact lenTab_get hlt
    repeat' first
      | refine WpA.seq ?_
      | refine WpA.region ?_
      | refine WpOps.op _ rfl rfl rfl rfl rfl ?_
      | refine WpOps.box _ rfl rfl rfl rfl rfl ?_
      | refine WpOps.alloc _ rfl rfl rfl rfl rfl rfl ?_
      | refine WpOps.store rfl rfl rfl rfl rfl rfl rfl rfl rfl rfl ?_
      | refine WpOps.skip rfl rfl rfl ?_
      | refine WpOps.build _ rfl rfl rfl rfl rfl ?_
      | refine WpOps.sh _ rfl rfl rfl rfl rfl ?_
      | refine WpOps.gsplit _ rfl rfl rfl (fun h => ?_) (fun h => ?_)
      | refine WpA.block ?_
      | refine WpA.exit ?_
      | refine WpOps.nil ?_
      | refine WpA.ret ?_
      | refine WpA.skip ?_
      | refine WpA.condT rfl ?_
      | refine WpA.condF rfl ?_
      | refine WpA.cond _ rfl (fun h => ?_) (fun h => ?_)
      | refine WpA.draw (by kernel_rfl) ?_
      | refine LexA.op _ rfl rfl rfl rfl rfl ?_
      | refine LexA.skip rfl rfl rfl ?_
      | refine LexA.build _ rfl rfl rfl rfl rfl ?_
      | refine LexA.sh _ rfl rfl rfl rfl rfl ?_
      | refine LexA.gsplit _ rfl rfl rfl (fun h => ?_) (fun h => ?_)
      | refine LexA.nil ?_
    refine retK.ok rfl rfl (congrArg (AV.int .i64) ?_) .int
    show IntKind.i64.wrap (0 + IntKind.i64.wrap ((UInt8.ofNat (bitLen (x))).toNat : Int)) = _
    rw [UInt8.toNat_ofNat', Nat.mod_eq_of_lt (by omega), wrap64 (x := ((bitLen (x) : Nat) : Int)) (by omega) (by omega), wrap64 (by omega) (by omega)]
    omega
end Go.Gp.Try

/- The octet codec: numbers, strings, sequences. -/
namespace Go.Gp.Try
open Go.Proofs
set_option linter.unusedVariables false
set_option linter.unusedSimpArgs false
set_option maxHeartbeats 4000000

/-- The last n bytes of a number, the highest first. -/
def beN (x : Nat) : Nat → List UInt8
  | 0 => []
  | n + 1 => UInt8.ofNat (x / 2 ^ (8 * n)) :: beN x n
def be (x : Nat) : List UInt8 := beN x ((bitLen x + 7) / 8)

def octA (tag : UInt8) (bs : List UInt8) (items : List (List AV)) : List AV := [u8 tag, .sl .no 1 (bs.map byteRow), .sl .no 3 items]

theorem bd_bytes (n : Nat) (bs : List UInt8) : Bd n (.sl .no 1 (bs.map byteRow)) := by
  refine .sl (fun _ _ e => by cases e) fun x hx e he => ?_
  obtain ⟨b, _, rfl⟩ := List.mem_map.1 hx
  have := List.mem_singleton.1 he
  subst this
  exact .int
theorem bd_oct {n : Nat} {tag : UInt8} {bs : List UInt8} {items : List (List AV)} (h : ∀ x ∈ items, ∀ e ∈ x, Bd n e) : Bd n (.agg (octA tag bs items)) := .agg fun e he => by
  simp only [octA, List.mem_cons, List.not_mem_nil, or_false] at he
  rcases he with rfl | rfl | rfl
  · exact .int
  · exact bd_bytes n bs
  · exact .sl (fun _ _ e => by cases e) h

theorem Num_A (t : UInt8) (x : Nat) (H : List AObj) (hx : x < 18446744073709551616) : CallsA E 27 [u8 t, .int .u64 x] H (Is H (.agg (octA t (be x) []))) := by
  refine .enter Try.func27 rfl rfl rfl 29 Try.ntmps27 (Nat.le_of_ble_eq_true rfl) ?_
  have hb := bitLen_lt (x := x) (k := 64) hx
  repeat' first
    | refine WpA.seq ?_
    | refine WpA.region ?_
    | refine WpOps.op _ rfl rfl rfl rfl rfl ?_
    | refine WpOps.box _ rfl rfl rfl rfl rfl ?_
    | refine WpOps.alloc _ rfl rfl rfl rfl rfl rfl ?_
    | refine WpOps.store rfl rfl rfl rfl rfl rfl rfl rfl rfl rfl ?_
    | refine WpOps.skip rfl rfl rfl ?_
    | refine WpOps.build _ rfl rfl rfl rfl rfl ?_
    | refine WpOps.sh _ rfl rfl rfl rfl rfl ?_
    | (refine WpOps.call rfl rfl rfl rfl rfl (by exact Len64_A x _ hx) ?_; rintro _ _ ⟨rfl, rfl⟩)
    | refine WpOps.quo _ rfl rfl rfl rfl rfl ?_
    | refine WpOps.gsplit _ rfl rfl rfl (fun h => ?_) (fun h => ?_)
    | refine WpA.block ?_
    | refine WpA.exit ?_
    | refine WpOps.nil ?_
    | refine WpA.ret ?_
    | refine WpA.skip ?_
    | refine WpA.condT rfl ?_
    | refine WpA.condF rfl ?_
    | refine WpA.cond _ rfl (fun h => ?_) (fun h => ?_)
    | refine WpA.draw (by kernel_rfl) ?_
    | refine LexA.op _ rfl rfl rfl rfl rfl ?_
    | refine LexA.skip rfl rfl rfl ?_
    | refine LexA.build _ rfl rfl rfl rfl rfl ?_
    | refine LexA.sh _ rfl rfl rfl rfl rfl ?_
    | refine LexA.call rfl rfl rfl rfl rfl (by exact Len64_A x _ hx) ?_
    | refine LexA.gsplit _ rfl rfl rfl (fun h => ?_) (fun h => ?_)
    | refine LexA.nil ?_
  refine WpA.adoptC (j := 1) (q := 1) 1 rfl rfl ?_
  have h1 : IntKind.i64.wrap ((IntKind.i64.wrap ((bitLen x : Int) + 7)).tdiv (7 + 1)) = (((bitLen x + 7) / 8 : Nat) : Int) := by
    rw [wrap64 (x := (bitLen x : Int) + 7) (by omega) (by omega)]
    have : ((bitLen x : Int) + 7).tdiv (7 + 1) = (((bitLen x + 7) / 8 : Nat) : Int) := by
      rw [Int.tdiv_eq_ediv_of_nonneg (by omega)]
      omega
    rw [this, wrap64 (by omega) (by omega)]
  refine WpA.loopS (α := Nat × List (List AV)) (fun p => [(1, .int .u64 x), (4, .ptr H.length 0 0), (5, .ptr H.length 1 0), (6, .int .i64 p.1)])
    (fun p => H ++ [AObj.cells [.int .u8 0, .sl .full 0 [], .sl .full 0 []], AObj.cells [u8 t, .sl (.row H.length 2) 1 p.2, .sl .full 0 []], .tail p.2.length 1])
    (fun p => p.1 ≤ 8 ∧ p.2.length + p.1 ≤ 8 ∧ ∃ done : List UInt8, p.2 = done.map byteRow ∧ done ++ beN x p.1 = be x) (fun p => p.1) ((bitLen x + 7) / 8, [])
    ⟨by simp only; omega, by simp only [List.length_nil]; omega, [], rfl, rfl⟩ ⟨rfl, rfl, rfl, congrArg (AV.int .i64) h1, trivial⟩ rfl ?_
  rintro ⟨m, xs⟩ ⟨hm, hl, done, hd1, hd2⟩
  dsimp only at hm hl hd1 hd2 ⊢
  repeat' first
    | refine WpA.seq ?_
    | refine WpA.region ?_
    | refine WpOps.op _ rfl rfl rfl rfl rfl ?_
    | refine WpOps.box _ rfl rfl rfl rfl rfl ?_
    | refine WpOps.alloc _ rfl rfl rfl rfl rfl rfl ?_
    | refine WpOps.store rfl rfl rfl rfl rfl rfl rfl rfl rfl rfl ?_
    | refine WpOps.skip rfl rfl rfl ?_
    | refine WpOps.build _ rfl rfl rfl rfl rfl ?_
    | refine WpOps.sh _ rfl rfl rfl rfl rfl ?_
    | refine WpOps.gsplit _ rfl rfl rfl (fun h => ?_) (fun h => ?_)
    | refine WpA.block ?_
    | refine WpA.exit ?_
    | refine WpOps.nil ?_
    | refine WpA.ret ?_
    | refine WpA.skip ?_
    | refine WpA.condT rfl ?_
    | refine WpA.condF rfl ?_
    | refine WpA.cond _ rfl (fun h => ?_) (fun h => ?_)
    | refine WpA.drawC (by kernel_rfl) (by kernel_rfl) ?_
    | refine LexH.op0 _ rfl rfl rfl rfl rfl (fun _ => rfl) ?_
    | refine LexH.op1 _ rfl rfl rfl rfl rfl rfl ?_
    | refine LexH.load4 _ rfl rfl rfl rfl rfl rfl (by simp) rfl rfl rfl rfl ?_
    | refine LexH.skip rfl rfl rfl ?_
    | refine LexH.build _ rfl rfl rfl rfl rfl rfl ?_
    | refine LexH.buildSlice _ rfl rfl rfl rfl rfl rfl rfl rfl rfl rfl rfl rfl ?_
    | refine LexH.store rfl rfl rfl rfl rfl rfl rfl rfl rfl rfl rfl ?_
    | refine LexH.sh _ rfl rfl rfl rfl rfl rfl ?_
    | refine LexH.gsplit _ rfl rfl rfl (fun h => ?_) (fun h => ?_)
    | refine LexH.nil ?_
  · simp at h
    obtain ⟨m, rfl⟩ : ∃ q, m = q + 1 := ⟨m - 1, by omega⟩
    have hq : IntKind.i64.wrap (8 * IntKind.i64.wrap (((m + 1 : Nat) : Int) - 1)) = ((8 * m : Nat) : Int) := by
      rw [wrap64 (x := ((m + 1 : Nat) : Int) - 1) (by omega) (by omega), wrap64 (by omega) (by omega)]
      omega
    refine LexH.p0 rfl rfl rfl rfl (fun H0 => .shr rfl rfl rfl (by show (0 : Int) ≤ IntKind.i64.wrap (8 * IntKind.i64.wrap (((m + 1 : Nat) : Int) - 1)); rw [hq]; omega)) ?_
    repeat' first
      | refine WpA.seq ?_
      | refine WpA.region ?_
      | refine WpOps.op _ rfl rfl rfl rfl rfl ?_
      | refine WpOps.box _ rfl rfl rfl rfl rfl ?_
      | refine WpOps.alloc _ rfl rfl rfl rfl rfl rfl ?_
      | refine WpOps.store rfl rfl rfl rfl rfl rfl rfl rfl rfl rfl ?_
      | refine WpOps.skip rfl rfl rfl ?_
      | refine WpOps.build _ rfl rfl rfl rfl rfl ?_
      | refine WpOps.sh _ rfl rfl rfl rfl rfl ?_
      | refine WpOps.gsplit _ rfl rfl rfl (fun h => ?_) (fun h => ?_)
      | refine WpA.block ?_
      | refine WpA.exit ?_
      | refine WpOps.nil ?_
      | refine WpA.ret ?_
      | refine WpA.skip ?_
      | refine WpA.condT rfl ?_
      | refine WpA.condF rfl ?_
      | refine WpA.cond _ rfl (fun h => ?_) (fun h => ?_)
      | refine WpA.drawC (by kernel_rfl) (by kernel_rfl) ?_
      | refine LexH.op0 _ rfl rfl rfl rfl rfl (fun _ => rfl) ?_
      | refine LexH.op1 _ rfl rfl rfl rfl rfl rfl ?_
      | refine LexH.load4 _ rfl rfl rfl rfl rfl rfl (by simp) rfl rfl rfl rfl ?_
      | refine LexH.skip rfl rfl rfl ?_
      | refine LexH.build _ rfl rfl rfl rfl rfl rfl ?_
      | refine LexH.buildSlice _ rfl rfl rfl rfl rfl rfl rfl rfl rfl rfl rfl rfl ?_
      | refine LexH.store rfl rfl rfl rfl rfl rfl rfl rfl rfl rfl rfl ?_
      | refine LexH.sh _ rfl rfl rfl rfl rfl rfl ?_
      | refine LexH.gsplit _ rfl rfl rfl (fun h => ?_) (fun h => ?_)
      | refine LexH.nil ?_
    refine LexH.appR rfl rfl rfl rfl rfl rfl rfl rfl (fun k h => by cases h) rfl rfl rfl rfl rfl rfl ?_ ?_ ?_
    · intro y hy a ha
      have hy' := List.mem_singleton.1 hy
      subst hy'
      have ha' := List.mem_singleton.1 ha
      subst ha'
      rfl
    · show (xs.length + 1) * 1 ≤ _
      omega
    repeat' first
      | refine WpA.seq ?_
      | refine WpA.region ?_
      | refine WpOps.op _ rfl rfl rfl rfl rfl ?_
      | refine WpOps.box _ rfl rfl rfl rfl rfl ?_
      | refine WpOps.alloc _ rfl rfl rfl rfl rfl rfl ?_
      | refine WpOps.store rfl rfl rfl rfl rfl rfl rfl rfl rfl rfl ?_
      | refine WpOps.skip rfl rfl rfl ?_
      | refine WpOps.build _ rfl rfl rfl rfl rfl ?_
      | refine WpOps.sh _ rfl rfl rfl rfl rfl ?_
      | refine WpOps.gsplit _ rfl rfl rfl (fun h => ?_) (fun h => ?_)
      | refine WpA.block ?_
      | refine WpA.exit ?_
      | refine WpOps.nil ?_
      | refine WpA.ret ?_
      | refine WpA.skip ?_
      | refine WpA.condT rfl ?_
      | refine WpA.condF rfl ?_
      | refine WpA.cond _ rfl (fun h => ?_) (fun h => ?_)
      | refine WpA.drawC (by kernel_rfl) (by kernel_rfl) ?_
      | refine LexH.op0 _ rfl rfl rfl rfl rfl (fun _ => rfl) ?_
      | refine LexH.op1 _ rfl rfl rfl rfl rfl rfl ?_
      | refine LexH.load4 _ rfl rfl rfl rfl rfl rfl (by simp) rfl rfl rfl rfl ?_
      | refine LexH.skip rfl rfl rfl ?_
      | refine LexH.build _ rfl rfl rfl rfl rfl rfl ?_
      | refine LexH.buildSlice _ rfl rfl rfl rfl rfl rfl rfl rfl rfl rfl rfl rfl ?_
      | refine LexH.store rfl rfl rfl rfl rfl rfl rfl rfl rfl rfl rfl ?_
      | refine LexH.sh _ rfl rfl rfl rfl rfl rfl ?_
      | refine LexH.gsplit _ rfl rfl rfl (fun h => ?_) (fun h => ?_)
      | refine LexH.nil ?_
    have hbv : IntKind.u8.wrap ((x : Int).fdiv (2 ^ min (IntKind.i64.wrap (8 * IntKind.i64.wrap (((m + 1 : Nat) : Int) - 1))).toNat IntKind.u64.bits)) = (((UInt8.ofNat (x / 2 ^ (8 * m))).toNat : Nat) : Int) := by
      rw [hq, Int.toNat_natCast, show min (8 * m) IntKind.u64.bits = 8 * m from by show min (8 * m) 64 = _; omega, fdiv_nat, UInt8.toNat_ofNat']
      generalize x / 2 ^ (8 * m) = y
      simp only [IntKind.wrap, IntKind.bits, IntKind.signed]
      simp
    refine ⟨(m, xs ++ [[.int .u8 _]]), ⟨by simp only; omega, by simp only [List.length_append, List.length_singleton]; omega, done ++ [UInt8.ofNat (x / 2 ^ (8 * m))], ?_, ?_⟩, by simp only; omega, ⟨rfl, rfl, rfl, congrArg (AV.int .i64) ?_, trivial⟩, rfl⟩
    · show xs ++ [[AV.int .u8 (IntKind.u8.wrap ((x : Int).fdiv (2 ^ min (IntKind.i64.wrap (8 * IntKind.i64.wrap (((m + 1 : Nat) : Int) - 1))).toNat IntKind.u64.bits)))]] = _
      rw [hbv, hd1, List.map_append]
      rfl
    · simp only
      rw [← hd2, beN, List.append_assoc]
      rfl
    · show IntKind.i64.wrap (((m + 1 : Nat) : Int) - 1) = (m : Int)
      rw [wrap64 (by omega) (by omega)]
      omega
  · simp at h
    subst h
    have hd3 : done = be x := by rw [← hd2, beN, List.append_nil]
    subst hd1
    rw [hd3]
    refine retK.sub (.inr rfl) rfl (TrOk.refl H) (L := _) rfl rfl (Sub.agg (vs := octA t (be x) []) ⟨Sub.refl _, Sub.untag, Sub.empty, trivial⟩) (bd_oct (by simp)) ⟨rfl, rfl⟩
theorem Str_A (t : UInt8) (s : List UInt8) (H : List AObj) (hl : s.length ≤ 140737488355328) : CallsA E 29 [u8 t, .str s] H (Is H (.agg (octA t s []))) := by
  refine .enter Try.func29 rfl rfl rfl 9 Try.ntmps29 (Nat.le_of_ble_eq_true rfl) ?_
  repeat' first
    | refine WpA.seq ?_
    | refine WpA.region ?_
    | refine WpOps.op _ rfl rfl rfl rfl rfl ?_
    | refine WpOps.box _ rfl rfl rfl rfl rfl ?_
    | refine WpOps.alloc _ rfl rfl rfl rfl rfl rfl ?_
    | refine WpOps.store rfl rfl rfl rfl rfl rfl rfl rfl rfl rfl ?_
    | refine WpOps.skip rfl rfl rfl ?_
    | refine WpOps.build _ rfl rfl rfl rfl rfl ?_
    | refine WpOps.sh _ rfl rfl rfl rfl rfl ?_
    | refine WpOps.p1 rfl rfl rfl (.strSl rfl rfl rfl rfl rfl hl) ?_
    | refine WpOps.gsplit _ rfl rfl rfl (fun h => ?_) (fun h => ?_)
    | refine WpA.block ?_
    | refine WpA.exit ?_
    | refine WpOps.nil ?_
    | refine WpA.ret ?_
    | refine WpA.skip ?_
    | refine WpA.condT rfl ?_
    | refine WpA.condF rfl ?_
    | refine WpA.cond _ rfl (fun h => ?_) (fun h => ?_)
    | refine WpA.draw (by kernel_rfl) ?_
    | refine LexA.op _ rfl rfl rfl rfl rfl ?_
    | refine LexA.skip rfl rfl rfl ?_
    | refine LexA.build _ rfl rfl rfl rfl rfl ?_
    | refine LexA.sh _ rfl rfl rfl rfl rfl ?_
    | refine LexA.gsplit _ rfl rfl rfl (fun h => ?_) (fun h => ?_)
    | refine LexA.nil ?_
  exact retK.sub (.inr rfl) rfl (TrOk.refl H) (L := _) rfl rfl (Sub.agg (vs := octA t s []) ⟨Sub.refl _, Sub.refl _, Sub.empty, trivial⟩) (bd_oct (by simp)) ⟨rfl, rfl⟩
end Go.Gp.Try
