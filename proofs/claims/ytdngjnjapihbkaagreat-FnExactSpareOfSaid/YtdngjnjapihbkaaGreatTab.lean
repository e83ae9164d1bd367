/- The table of the types that the walks ask for. Plain theorems, no condition. -/
import Derived.Test.YtdngjnjapihbkaaGreatProg
import Derived.Test.YtdngjnjapihbkaaGreatF3
namespace Go.Proofs.YtdngjnjapihbkaaGreat
open Go.Fw
def T : Nat → Option TI
  | 2 => some ⟨1, 8, none, false, false, false, [], (some (.int .i64 0)), (some .i64)⟩
  | 3 => some ⟨1, 8, none, false, false, false, [], (some (.int .i64 0)), (some .i64)⟩
  | 4 => some ⟨1, 1, none, false, false, true, [], (some (.bool false)), none⟩
  | 5 => some ⟨1, 1, none, false, false, false, [], (some (.int .u8 0)), (some .u8)⟩
  | 6 => some ⟨1, 1, none, false, false, false, [], (some (.int .u8 0)), (some .u8)⟩
  | 7 => some ⟨4, 24, none, true, false, false, [(0, 1, false), (1, 1, false), (2, 1, false), (3, 1, false)], (some (.agg #[(.int .i64 0), (.int .i64 0), (.bool false), (.int .u8 0)])), none⟩
  | 8 => some ⟨4, 24, none, true, false, false, [(0, 1, false), (1, 1, false), (2, 1, false), (3, 1, false)], (some (.agg #[(.int .i64 0), (.int .i64 0), (.bool false), (.int .u8 0)])), none⟩
  | 9 => some ⟨1, 16, none, false, true, false, [], (some (.string ⟨#[]⟩)), none⟩
  | 10 => some ⟨1, 16, none, false, true, false, [], (some (.string ⟨#[]⟩)), none⟩
  | 11 => some ⟨1, 16, none, false, true, false, [], (some (.string ⟨#[]⟩)), none⟩
  | 12 => some ⟨1, 8, none, false, false, false, [], (some (.int .u64 0)), (some .u64)⟩
  | 13 => some ⟨2, 24, none, true, false, false, [(0, 1, false), (1, 1, false)], (some (.agg #[(.string ⟨#[]⟩), (.int .u64 0)])), none⟩
  | 14 => some ⟨2, 24, none, true, false, false, [(0, 1, false), (1, 1, false)], (some (.agg #[(.string ⟨#[]⟩), (.int .u64 0)])), none⟩
  | 15 => some ⟨1, 8, none, false, false, false, [], (some (.pointer none)), none⟩
  | 16 => some ⟨1, 8, none, false, false, false, [], (some (.pointer none)), none⟩
  | 17 => some ⟨1, 8, none, false, false, false, [], (some (.pointer none)), none⟩
  | 18 => some ⟨1, 8, none, true, false, false, [(0, 1, false)], (some (.agg #[(.pointer none)])), none⟩
  | 19 => some ⟨1, 8, none, true, false, false, [(0, 1, false)], (some (.agg #[(.pointer none)])), none⟩
  | 21 => some ⟨1, 4, none, false, false, false, [], (some (.int .i32 0)), (some .i32)⟩
  | 22 => some ⟨1, 24, (some 52), false, false, false, [], (some (.slice none 0 0)), none⟩
  | 23 => some ⟨1, 24, (some 2), false, false, false, [], (some (.slice none 0 0)), none⟩
  | 25 => some ⟨3, 40, none, true, false, false, [(0, 1, false), (1, 1, false), (2, 1, false)], (some (.agg #[(.int .i64 0), (.int .i64 0), (.slice none 0 0)])), none⟩
  | 26 => some ⟨3, 40, none, true, false, false, [(0, 1, false), (1, 1, false), (2, 1, false)], (some (.agg #[(.int .i64 0), (.int .i64 0), (.slice none 0 0)])), none⟩
  | 28 => some ⟨1, 24, (some 59), false, false, false, [], (some (.slice none 0 0)), none⟩
  | 38 => some ⟨1, 24, (some 69), false, false, false, [], (some (.slice none 0 0)), none⟩
  | 41 => some ⟨1, 24, (some 73), false, false, false, [], (some (.slice none 0 0)), none⟩
  | 47 => some ⟨3, 24, none, true, false, false, [(0, 1, false), (1, 1, false), (2, 1, false)], (some (.agg #[(.int .i64 0), (.int .i64 0), (.int .i64 0)])), none⟩
  | 48 => some ⟨3, 24, none, true, false, false, [(0, 1, false), (1, 1, false), (2, 1, false)], (some (.agg #[(.int .i64 0), (.int .i64 0), (.int .i64 0)])), none⟩
  | 49 => some ⟨1, 24, (some 9), false, false, false, [], (some (.slice none 0 0)), none⟩
  | 50 => some ⟨1, 24, (some 38), false, false, false, [], (some (.slice none 0 0)), none⟩
  | 51 => some ⟨8, 120, none, true, false, false, [(0, 1, false), (1, 3, true), (4, 1, false), (5, 1, false), (6, 1, false), (7, 1, false)], (some (.agg #[(.string ⟨#[]⟩), (.int .i64 0), (.int .i64 0), (.int .i64 0), (.int .i64 0), (.slice none 0 0), (.slice none 0 0), (.slice none 0 0)])), none⟩
  | 52 => some ⟨8, 120, none, true, false, false, [(0, 1, false), (1, 3, true), (4, 1, false), (5, 1, false), (6, 1, false), (7, 1, false)], (some (.agg #[(.string ⟨#[]⟩), (.int .i64 0), (.int .i64 0), (.int .i64 0), (.int .i64 0), (.slice none 0 0), (.slice none 0 0), (.slice none 0 0)])), none⟩
  | 56 => some ⟨3, 24, none, true, false, false, [(0, 1, false), (1, 1, false), (2, 1, false)], (some (.agg #[(.int .i64 0), (.int .i64 0), (.int .i64 0)])), none⟩
  | 57 => some ⟨1, 24, (some 41), false, false, false, [], (some (.slice none 0 0)), none⟩
  | 58 => some ⟨8, 120, none, true, false, false, [(0, 1, false), (1, 3, true), (4, 1, false), (5, 1, false), (6, 1, false), (7, 1, false)], (some (.agg #[(.string ⟨#[]⟩), (.int .i64 0), (.int .i64 0), (.int .i64 0), (.int .i64 0), (.slice none 0 0), (.slice none 0 0), (.slice none 0 0)])), none⟩
  | 59 => some ⟨8, 120, none, true, false, false, [(0, 1, false), (1, 3, true), (4, 1, false), (5, 1, false), (6, 1, false), (7, 1, false)], (some (.agg #[(.string ⟨#[]⟩), (.int .i64 0), (.int .i64 0), (.int .i64 0), (.int .i64 0), (.slice none 0 0), (.slice none 0 0), (.slice none 0 0)])), none⟩
  | 62 => some ⟨1, 8, none, false, false, false, [], (some .nilFunc), none⟩
  | 68 => some ⟨7, 64, none, true, false, false, [(0, 1, false), (1, 3, true), (4, 3, true)], (some (.agg #[(.string ⟨#[]⟩), (.int .i64 0), (.int .i64 0), (.int .i64 0), (.int .i64 0), (.int .i64 0), (.int .i64 0)])), none⟩
  | 69 => some ⟨7, 64, none, true, false, false, [(0, 1, false), (1, 3, true), (4, 3, true)], (some (.agg #[(.string ⟨#[]⟩), (.int .i64 0), (.int .i64 0), (.int .i64 0), (.int .i64 0), (.int .i64 0), (.int .i64 0)])), none⟩
  | 72 => some ⟨7, 64, none, true, false, false, [(0, 1, false), (1, 3, true), (4, 3, true)], (some (.agg #[(.string ⟨#[]⟩), (.int .i64 0), (.int .i64 0), (.int .i64 0), (.int .i64 0), (.int .i64 0), (.int .i64 0)])), none⟩
  | 73 => some ⟨7, 64, none, true, false, false, [(0, 1, false), (1, 3, true), (4, 3, true)], (some (.agg #[(.string ⟨#[]⟩), (.int .i64 0), (.int .i64 0), (.int .i64 0), (.int .i64 0), (.int .i64 0), (.int .i64 0)])), none⟩
  | 92 => some ⟨1, 24, (some 5), false, false, false, [], (some (.slice none 0 0)), none⟩
  | 95 => some ⟨1, 24, (some 23), false, false, false, [], (some (.slice none 0 0)), none⟩
  | 97 => some ⟨1, 24, (some 113), false, false, false, [], (some (.slice none 0 0)), none⟩
  | 112 => some ⟨3, 24, none, true, false, false, [(0, 1, false), (1, 1, false), (2, 1, false)], (some (.agg #[(.int .i64 0), (.int .i64 0), (.int .i64 0)])), none⟩
  | 113 => some ⟨3, 24, none, true, false, false, [(0, 1, false), (1, 1, false), (2, 1, false)], (some (.agg #[(.int .i64 0), (.int .i64 0), (.int .i64 0)])), none⟩
  | 134 => some ⟨1, 24, (some 3), false, false, false, [], (some (.slice none 0 0)), none⟩
  | 136 => some ⟨4, 40, none, true, false, false, [(0, 1, false), (1, 1, false), (2, 1, false), (3, 1, false)], (some (.agg #[(.pointer none), (.pointer none), (.pointer none), (.string ⟨#[]⟩)])), none⟩
  | 137 => some ⟨4, 40, none, true, false, false, [(0, 1, false), (1, 1, false), (2, 1, false), (3, 1, false)], (some (.agg #[(.pointer none), (.pointer none), (.pointer none), (.string ⟨#[]⟩)])), none⟩
  | 138 => some ⟨0, 0, none, true, false, false, [], (some (.agg #[])), none⟩
  | 139 => some ⟨0, 0, none, true, false, false, [(0, 0, true)], (some (.agg #[])), none⟩
  | 140 => some ⟨0, 0, none, true, false, false, [(0, 0, true)], (some (.agg #[])), none⟩
  | 142 => some ⟨1, 4, none, false, false, false, [], (some (.int .u32 0)), (some .u32)⟩
  | 143 => some ⟨1, 1, none, false, false, false, [], (some (.int .u8 0)), (some .u8)⟩
  | 144 => some ⟨1, 1, none, false, false, false, [], (some (.int .u8 0)), (some .u8)⟩
  | 146 => some ⟨1, 8, none, false, false, false, [], (some (.pointer none)), none⟩
  | 147 => some ⟨1, 4, none, false, false, false, [], (some (.int .i32 0)), (some .i32)⟩
  | 148 => some ⟨1, 4, none, false, false, false, [], (some (.int .i32 0)), (some .i32)⟩
  | 151 => some ⟨1, 8, none, false, false, false, [], (some (.pointer none)), none⟩
  | _ => none
set_option maxRecDepth 100000 in
theorem T_ok : ∀ t i, T t = some i → tiOf Tryz.prog t = some i := by
  intro t i h
  unfold T at h
  split at h
  all_goals (cases h <;> kernel_rfl)
end Go.Proofs.YtdngjnjapihbkaaGreat
