/- The types that the walks name, as a table. -/
import Derived.Test.YtmacdhglhafldaaA6
import Derived.Test.YtmacdhglhafldaaProg
import Derived.KernelRfl
namespace Go.Gp
open Go.Proofs
namespace Try
def t2 : TI := ⟨(.int .i64), 1, (.int .i64 0), 8⟩ -- int64
theorem ok2 : TI.ok Try.prog 2 t2 := ⟨⟨_, Try.underlying2, rfl⟩, by kernel_rfl⟩
def t3 : TI := ⟨(.int .i64), 1, (.int .i64 0), 8⟩ -- int
theorem ok3 : TI.ok Try.prog 3 t3 := ⟨⟨_, Try.underlying3, rfl⟩, by kernel_rfl⟩
def t4 : TI := ⟨.basic, 1, (.bool false), 1⟩ -- bool
theorem ok4 : TI.ok Try.prog 4 t4 := ⟨⟨_, Try.underlying4, rfl⟩, by kernel_rfl⟩
def t5 : TI := ⟨(.int .u8), 1, (.int .u8 0), 1⟩ -- uint8
theorem ok5 : TI.ok Try.prog 5 t5 := ⟨⟨_, Try.underlying5, rfl⟩, by kernel_rfl⟩
def t9 : TI := ⟨.str, 1, (.string ⟨#[]⟩), 16⟩ -- string
theorem ok9 : TI.ok Try.prog 9 t9 := ⟨⟨_, Try.underlying9, rfl⟩, by kernel_rfl⟩
def t12 : TI := ⟨(.int .u64), 1, (.int .u64 0), 8⟩ -- uintptr
theorem ok12 : TI.ok Try.prog 12 t12 := ⟨⟨_, Try.underlying12, rfl⟩, by kernel_rfl⟩
def t13 : TI := ⟨(.struct [(0, 9), (1, 12)]), 2, (.agg #[(.string ⟨#[]⟩), (.int .u64 0)]), 24⟩ -- struct { msg string; addr uintptr }
theorem ok13 : TI.ok Try.prog 13 t13 := ⟨⟨_, Try.underlying13, _, rfl, rfl⟩, by kernel_rfl⟩
def t20 : TI := ⟨.iface, 1, .nilIface, 16⟩ -- interface {}
theorem ok20 : TI.ok Try.prog 20 t20 := ⟨⟨_, Try.underlying20, _, rfl⟩, by kernel_rfl⟩
def t21 : TI := ⟨(.int .i32), 1, (.int .i32 0), 4⟩ -- int32
theorem ok21 : TI.ok Try.prog 21 t21 := ⟨⟨_, Try.underlying21, rfl⟩, by kernel_rfl⟩
def t22 : TI := ⟨(.int .u64), 1, (.int .u64 0), 8⟩ -- uint64
theorem ok22 : TI.ok Try.prog 22 t22 := ⟨⟨_, Try.underlying22, rfl⟩, by kernel_rfl⟩
def t23 : TI := ⟨(.struct [(0, 2), (1, 2)]), 2, (.agg #[(.int .i64 0), (.int .i64 0)]), 16⟩ -- struct { From int64; To int64 }
theorem ok23 : TI.ok Try.prog 23 t23 := ⟨⟨_, Try.underlying23, _, rfl, rfl⟩, by kernel_rfl⟩
def t24 : TI := ⟨(.struct [(0, 2), (1, 2)]), 2, (.agg #[(.int .i64 0), (.int .i64 0)]), 16⟩ -- api.Window
theorem ok24 : TI.ok Try.prog 24 t24 := ⟨⟨_, Try.underlying24, _, rfl, rfl⟩, by kernel_rfl⟩
def t25 : TI := ⟨(.slice 53), 1, (.slice none 0 0), 24⟩ -- []api.FileHash
theorem ok25 : TI.ok Try.prog 25 t25 := ⟨⟨_, Try.underlying25, rfl⟩, by kernel_rfl⟩
def t26 : TI := ⟨(.struct [(0, 22), (1, 24), (3, 25)]), 4, (.agg #[(.int .u64 0), (.int .i64 0), (.int .i64 0), (.slice none 0 0)]), 48⟩ -- struct { Number uint64; Valid api.Window; Files []api.FileHash }
theorem ok26 : TI.ok Try.prog 26 t26 := ⟨⟨_, Try.underlying26, _, rfl, rfl⟩, by kernel_rfl⟩
def t27 : TI := ⟨(.struct [(0, 22), (1, 24), (3, 25)]), 4, (.agg #[(.int .u64 0), (.int .i64 0), (.int .i64 0), (.slice none 0 0)]), 48⟩ -- api.ManifestList
theorem ok27 : TI.ok Try.prog 27 t27 := ⟨⟨_, Try.underlying27, _, rfl, rfl⟩, by kernel_rfl⟩
def t30 : TI := ⟨(.array 32 5), 32, (.agg (Array.replicate 32 (.int .u8 0))), 32⟩ -- [32]uint8
theorem ok30 : TI.ok Try.prog 30 t30 := ⟨⟨_, Try.underlying30, rfl⟩, by kernel_rfl⟩
def t31 : TI := ⟨(.array 32 5), 32, (.agg (Array.replicate 32 (.int .u8 0))), 32⟩ -- api.Hash
theorem ok31 : TI.ok Try.prog 31 t31 := ⟨⟨_, Try.underlying31, rfl⟩, by kernel_rfl⟩
def t32 : TI := ⟨(.int .i64), 1, (.int .i64 0), 8⟩ -- api.Errno
theorem ok32 : TI.ok Try.prog 32 t32 := ⟨⟨_, Try.underlying32, rfl⟩, by kernel_rfl⟩
def t41 : TI := ⟨(.slice 5), 1, (.slice none 0 0), 24⟩ -- []uint8
theorem ok41 : TI.ok Try.prog 41 t41 := ⟨⟨_, Try.underlying41, rfl⟩, by kernel_rfl⟩
def t52 : TI := ⟨(.struct [(0, 9), (1, 31)]), 33, (.agg #[(.string ⟨#[]⟩), (.int .u8 0), (.int .u8 0), (.int .u8 0), (.int .u8 0), (.int .u8 0), (.int .u8 0), (.int .u8 0), (.int .u8 0), (.int .u8 0), (.int .u8 0), (.int .u8 0), (.int .u8 0), (.int .u8 0), (.int .u8 0), (.int .u8 0), (.int .u8 0), (.int .u8 0), (.int .u8 0), (.int .u8 0), (.int .u8 0), (.int .u8 0), (.int .u8 0), (.int .u8 0), (.int .u8 0), (.int .u8 0), (.int .u8 0), (.int .u8 0), (.int .u8 0), (.int .u8 0), (.int .u8 0), (.int .u8 0), (.int .u8 0)]), 48⟩ -- struct { Name string; Hash api.Hash }
theorem ok52 : TI.ok Try.prog 52 t52 := ⟨⟨_, Try.underlying52, _, rfl, rfl⟩, by kernel_rfl⟩
def t53 : TI := ⟨(.struct [(0, 9), (1, 31)]), 33, (.agg #[(.string ⟨#[]⟩), (.int .u8 0), (.int .u8 0), (.int .u8 0), (.int .u8 0), (.int .u8 0), (.int .u8 0), (.int .u8 0), (.int .u8 0), (.int .u8 0), (.int .u8 0), (.int .u8 0), (.int .u8 0), (.int .u8 0), (.int .u8 0), (.int .u8 0), (.int .u8 0), (.int .u8 0), (.int .u8 0), (.int .u8 0), (.int .u8 0), (.int .u8 0), (.int .u8 0), (.int .u8 0), (.int .u8 0), (.int .u8 0), (.int .u8 0), (.int .u8 0), (.int .u8 0), (.int .u8 0), (.int .u8 0), (.int .u8 0), (.int .u8 0)]), 48⟩ -- api.FileHash
theorem ok53 : TI.ok Try.prog 53 t53 := ⟨⟨_, Try.underlying53, _, rfl, rfl⟩, by kernel_rfl⟩
def t63 : TI := ⟨(.slice 65), 1, (.slice none 0 0), 24⟩ -- []api.Octet
theorem ok63 : TI.ok Try.prog 63 t63 := ⟨⟨_, Try.underlying63, rfl⟩, by kernel_rfl⟩
def t64 : TI := ⟨(.struct [(0, 5), (1, 41), (2, 63)]), 3, (.agg #[(.int .u8 0), (.slice none 0 0), (.slice none 0 0)]), 56⟩ -- struct { Tag uint8; Bytes []uint8; List []api.Octet }
theorem ok64 : TI.ok Try.prog 64 t64 := ⟨⟨_, Try.underlying64, _, rfl, rfl⟩, by kernel_rfl⟩
def t65 : TI := ⟨(.struct [(0, 5), (1, 41), (2, 63)]), 3, (.agg #[(.int .u8 0), (.slice none 0 0), (.slice none 0 0)]), 56⟩ -- api.Octet
theorem ok65 : TI.ok Try.prog 65 t65 := ⟨⟨_, Try.underlying65, _, rfl, rfl⟩, by kernel_rfl⟩
def t87 : TI := ⟨(.int .u64), 1, (.int .u64 0), 8⟩ -- uint
theorem ok87 : TI.ok Try.prog 87 t87 := ⟨⟨_, Try.underlying87, rfl⟩, by kernel_rfl⟩
def t89 : TI := ⟨(.array 256 5), 256, (.agg (Array.replicate 256 (.int .u8 0))), 256⟩ -- [256]uint8
theorem ok89 : TI.ok Try.prog 89 t89 := ⟨⟨_, Try.underlying89, rfl⟩, by kernel_rfl⟩
def t98 : TI := ⟨(.struct []), 0, (.agg #[]), 0⟩ -- struct {}
theorem ok98 : TI.ok Try.prog 98 t98 := ⟨⟨_, Try.underlying98, _, rfl, rfl⟩, by kernel_rfl⟩
def t99 : TI := ⟨(.struct []), 0, (.agg #[]), 0⟩ -- octet.errForm
theorem ok99 : TI.ok Try.prog 99 t99 := ⟨⟨_, Try.underlying99, _, rfl, rfl⟩, by kernel_rfl⟩
def t101 : TI := ⟨(.ptr 103), 1, (.pointer none), 8⟩ -- *octet.reader
theorem ok101 : TI.ok Try.prog 101 t101 := ⟨⟨_, Try.underlying101, rfl⟩, by kernel_rfl⟩
def t102 : TI := ⟨(.struct [(0, 41)]), 1, (.agg #[(.slice none 0 0)]), 24⟩ -- struct { b []uint8 }
theorem ok102 : TI.ok Try.prog 102 t102 := ⟨⟨_, Try.underlying102, _, rfl, rfl⟩, by kernel_rfl⟩
def t103 : TI := ⟨(.struct [(0, 41)]), 1, (.agg #[(.slice none 0 0)]), 24⟩ -- octet.reader
theorem ok103 : TI.ok Try.prog 103 t103 := ⟨⟨_, Try.underlying103, _, rfl, rfl⟩, by kernel_rfl⟩
def t106 : TI := ⟨(.slice 32), 1, (.slice none 0 0), 24⟩ -- []api.Errno
theorem ok106 : TI.ok Try.prog 106 t106 := ⟨⟨_, Try.underlying106, rfl⟩, by kernel_rfl⟩
def t125 : TI := ⟨(.int .u32), 1, (.int .u32 0), 4⟩ -- uint32
theorem ok125 : TI.ok Try.prog 125 t125 := ⟨⟨_, Try.underlying125, rfl⟩, by kernel_rfl⟩
def t135 : TI := ⟨(.ptr 5), 1, (.pointer none), 8⟩ -- *uint8
theorem ok135 : TI.ok Try.prog 135 t135 := ⟨⟨_, Try.underlying135, rfl⟩, by kernel_rfl⟩
def T : List (Nat × TI) := [(2, t2), (3, t3), (4, t4), (5, t5), (9, t9), (12, t12), (13, t13), (20, t20), (21, t21), (22, t22), (23, t23), (24, t24), (25, t25), (26, t26), (27, t27), (30, t30), (31, t31), (32, t32), (41, t41), (52, t52), (53, t53), (63, t63), (64, t64), (65, t65), (87, t87), (89, t89), (98, t98), (99, t99), (101, t101), (102, t102), (103, t103), (106, t106), (125, t125), (135, t135)]
theorem okT : ∀ e ∈ T, TI.ok Try.prog e.1 e.2 := by
  intro e he
  simp only [T, List.mem_cons, List.not_mem_nil, or_false] at he
  rcases he with rfl | rfl | rfl | rfl | rfl | rfl | rfl | rfl | rfl | rfl | rfl | rfl | rfl | rfl | rfl | rfl | rfl | rfl | rfl | rfl | rfl | rfl | rfl | rfl | rfl | rfl | rfl | rfl | rfl | rfl | rfl | rfl | rfl | rfl
  · exact ok2
  · exact ok3
  · exact ok4
  · exact ok5
  · exact ok9
  · exact ok12
  · exact ok13
  · exact ok20
  · exact ok21
  · exact ok22
  · exact ok23
  · exact ok24
  · exact ok25
  · exact ok26
  · exact ok27
  · exact ok30
  · exact ok31
  · exact ok32
  · exact ok41
  · exact ok52
  · exact ok53
  · exact ok63
  · exact ok64
  · exact ok65
  · exact ok87
  · exact ok89
  · exact ok98
  · exact ok99
  · exact ok101
  · exact ok102
  · exact ok103
  · exact ok106
  · exact ok125
  · exact ok135
noncomputable def E : Env := ⟨Try.prog, T, okT, fun _ => none, by kernel_rfl⟩
end Try
end Go.Gp
