/- The kinds of data that the program's functions handle. -/
import Derived.Test.YtoemipeomingaaaDoorVcgL
import Derived.Test.YtoemipeomingaaaDoorProg
namespace Go.Proofs.YtoemipeomingaaaDoor
open Go Go.V
set_option maxRecDepth 100000

def tab : Tab := [
  (0, ⟨.tuple #[], 1, 0, (.tuple #[])⟩),
  (2, ⟨.int .i64, 1, 8, (.int .i64 0)⟩),
  (3, ⟨.int .i64, 1, 8, (.int .i64 0)⟩),
  (4, ⟨.bool, 1, 1, (.bool false)⟩),
  (5, ⟨.int .u8, 1, 1, (.int .u8 0)⟩),
  (9, ⟨.string, 1, 16, (.string ⟨⟨[]⟩⟩)⟩),
  (22, ⟨.slice 35, 1, 24, (.slice none 0 0)⟩),
  (27, ⟨.slice 9, 1, 24, (.slice none 0 0)⟩),
  (32, ⟨.array 16 30, 16, 64, (.agg #[(.int .u32 0), (.int .u32 0), (.int .u32 0), (.int .u32 0), (.int .u32 0), (.int .u32 0), (.int .u32 0), (.int .u32 0), (.int .u32 0), (.int .u32 0), (.int .u32 0), (.int .u32 0), (.int .u32 0), (.int .u32 0), (.int .u32 0), (.int .u32 0)])⟩),
  (33, ⟨.slice 68, 1, 24, (.slice none 0 0)⟩),
  (35, ⟨.struct #[⟨ "Path", 9, 0, false, "", "", 0⟩, ⟨ "Kind", 3, 1, false, "", "", 16⟩, ⟨ "Deleted", 4, 2, false, "", "", 24⟩, ⟨ "Size", 3, 3, false, "", "", 32⟩, ⟨ "Time", 2, 4, false, "", "", 40⟩, ⟨ "By", 3, 5, false, "", "", 48⟩, ⟨ "Vector", 32, 6, false, "", "", 56⟩, ⟨ "BlockSize", 3, 22, false, "", "", 120⟩, ⟨ "Blocks", 33, 23, false, "", "", 128⟩, ⟨ "Target", 9, 24, false, "", "", 152⟩, ⟨ "Seq", 2, 25, false, "", "", 168⟩, ⟨ "Flags", 3, 26, false, "", "", 176⟩], 27, 184, (.agg #[(.string ⟨⟨[]⟩⟩), (.int .i64 0), (.bool false), (.int .i64 0), (.int .i64 0), (.int .i64 0), (.int .u32 0), (.int .u32 0), (.int .u32 0), (.int .u32 0), (.int .u32 0), (.int .u32 0), (.int .u32 0), (.int .u32 0), (.int .u32 0), (.int .u32 0), (.int .u32 0), (.int .u32 0), (.int .u32 0), (.int .u32 0), (.int .u32 0), (.int .u32 0), (.int .i64 0), (.slice none 0 0), (.string ⟨⟨[]⟩⟩), (.int .i64 0), (.int .i64 0)])⟩),
  (37, ⟨.struct #[⟨ "needs", 22, 0, false, "", "caravan/caravanlaw20", 0⟩, ⟨ "own", 22, 1, false, "", "caravan/caravanlaw20", 24⟩, ⟨ "ready", 9, 2, false, "", "caravan/caravanlaw20", 48⟩, ⟨ "blocked", 9, 3, false, "", "caravan/caravanlaw20", 64⟩], 4, 80, (.agg #[(.slice none 0 0), (.slice none 0 0), (.string ⟨⟨[]⟩⟩), (.string ⟨⟨[]⟩⟩)])⟩),
  (38, ⟨.slice 37, 1, 24, (.slice none 0 0)⟩),
  (39, ⟨.slice 5, 1, 24, (.slice none 0 0)⟩),
  (47, ⟨.map 9 35, 1, 8, (.map none)⟩),
  (49, ⟨.map 9 3, 1, 8, (.map none)⟩),
  (63, ⟨.tuple #[35, 4], 1, 0, (.tuple #[(.agg #[(.string ⟨⟨[]⟩⟩), (.int .i64 0), (.bool false), (.int .i64 0), (.int .i64 0), (.int .i64 0), (.int .u32 0), (.int .u32 0), (.int .u32 0), (.int .u32 0), (.int .u32 0), (.int .u32 0), (.int .u32 0), (.int .u32 0), (.int .u32 0), (.int .u32 0), (.int .u32 0), (.int .u32 0), (.int .u32 0), (.int .u32 0), (.int .u32 0), (.int .u32 0), (.int .i64 0), (.slice none 0 0), (.string ⟨⟨[]⟩⟩), (.int .i64 0), (.int .i64 0)]), (.bool false)])⟩),
  (68, ⟨.array 32 5, 32, 32, (.agg #[(.int .u8 0), (.int .u8 0), (.int .u8 0), (.int .u8 0), (.int .u8 0), (.int .u8 0), (.int .u8 0), (.int .u8 0), (.int .u8 0), (.int .u8 0), (.int .u8 0), (.int .u8 0), (.int .u8 0), (.int .u8 0), (.int .u8 0), (.int .u8 0), (.int .u8 0), (.int .u8 0), (.int .u8 0), (.int .u8 0), (.int .u8 0), (.int .u8 0), (.int .u8 0), (.int .u8 0), (.int .u8 0), (.int .u8 0), (.int .u8 0), (.int .u8 0), (.int .u8 0), (.int .u8 0), (.int .u8 0), (.int .u8 0)])⟩),
  (69, ⟨.tuple #[9, 9], 1, 0, (.tuple #[(.string ⟨⟨[]⟩⟩), (.string ⟨⟨[]⟩⟩)])⟩),
  (72, ⟨.tuple #[9, 4], 1, 0, (.tuple #[(.string ⟨⟨[]⟩⟩), (.bool false)])⟩),
  (91, ⟨.int .u64, 1, 8, (.int .u64 0)⟩)]
def zc (t : Nat) : Array Value := match tget tab t with | some i => i.zero.cells | none => #[]
theorem tab_ok : TabOk Tryd.prog tab := TabOk.of (by kernel_rfl)
def fns : List Nat := [3, 4, 5, 6, 7, 8, 9, 10, 11, 12, 13, 14, 15, 16, 17, 18, 19, 20, 21, 22, 23, 24, 25, 26, 27, 28, 29, 30, 31, 32, 33, 34, 35, 36, 37, 38, 39, 40, 41, 42, 43, 44, 45, 46, 47, 48, 49, 50, 51, 52, 53, 54, 55, 56, 57, 58, 61, 62, 63, 64, 65, 66, 67, 68, 79, 80, 81, 82, 83, 84, 90, 91, 94, 96, 98, 100, 101]
theorem fns_all : fns.all (fun f => match Tryd.prog.funcs[f]? with | some fn => fn.body.isSome && !(fn.name == "runtime.NumGoroutine") | none => false) = true := by kernel_rfl
theorem fns_ok : ∀ f, memb f fns = true → ∀ args w, (callFunc f args).run Tryd.prog w = .ok (.enter f args) w := fnsOk_of fns_all
theorem mixed_ok : Tryd.prog.follows .mixedOrders = true := by kernel_rfl
end Go.Proofs.YtoemipeomingaaaDoor
