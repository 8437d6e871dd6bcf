/- The tables of this seat for the evaluator: printed by mkenv.py, a program of mine, out of the translation. -/
import Derived.Lib.ItoaNum
import Derived.Lib.TrailingZeros
import Derived.Test.YtmojilihllhadaaGreatDoorEv0
import Derived.Test.YtmojilihllhadaaGreatDoorProg
namespace Go.Proofs.YtmojilihllhadaaGreatDoor.Ev
open Go

abbrev noS : ByteArray := ⟨#[]⟩
abbrev T_TextResult : Ty := (.st (.pair (.int .i64) (.pair .str .unit)))
abbrev T_Object : Ty := (.st (.pair .str (.pair (.int .i64) (.pair .str .unit))))
abbrev T_Work : Ty := (.st (.pair .str (.pair .str .unit)))
abbrev T_boundsError : Ty := (.st (.pair (.int .i64) (.pair (.int .i64) (.pair .bool (.pair (.int .u8) .unit)))))
abbrev T_errorAddressString : Ty := (.st (.pair .str (.pair (.int .u64) .unit)))
abbrev T_BaseResult : Ty := (.st (.pair (.int .i64) (.pair (.sl (.st (.pair .str (.pair (.int .i64) (.pair .str .unit))))) (.pair (.sl (.st (.pair .str (.pair (.int .i64) (.pair .str .unit))))) .unit))))
abbrev T_TreesResult : Ty := (.st (.pair (.int .i64) (.pair (.sl (.st (.pair .str (.pair (.int .i64) (.pair .str .unit))))) (.pair (.sl (.st (.pair .str (.pair (.int .i64) (.pair (.int .i64) (.pair .str .unit)))))) (.pair (.sl (.st (.pair .str (.pair .str .unit)))) .unit)))))
abbrev T_ReplayResult : Ty := (.st (.pair (.int .i64) (.pair (.int .i64) (.pair (.sl (.st (.pair .str (.pair (.int .i64) (.pair .str .unit))))) (.pair (.sl (.st (.pair .str (.pair (.int .i64) (.pair (.int .i64) (.pair .str .unit)))))) .unit)))))
abbrev T_Entry : Ty := (.st (.pair .str (.pair (.int .i64) (.pair (.int .i64) (.pair .str .unit)))))
abbrev T_StoreResult : Ty := (.st (.pair (.int .i64) (.pair .str (.pair (.sl (.st (.pair .str (.pair (.int .i64) (.pair .str .unit))))) .unit))))
abbrev T_Chunk : Ty := (.st (.pair (.int .i64) (.pair (.sl .str) (.pair (.sl .str) (.pair (.sl .str) .unit)))))
abbrev T_MergeResult : Ty := (.st (.pair (.int .i64) (.pair (.int .i64) (.pair .str .unit))))
abbrev T_acceptRange : Ty := (.st (.pair (.int .u8) (.pair (.int .u8) .unit)))
abbrev T_File : Ty := T_Object
abbrev T_Rule : Ty := T_Work
def ty2 : TI := ⟨.int .i64, false, 1, 8, .int .i64, [], [.int .i64 0]⟩
def ty3 : TI := ⟨.int .i64, false, 1, 8, .int .i64, [], [.int .i64 0]⟩
def ty4 : TI := ⟨.bool, false, 1, 1, .bool, [], [.bool false]⟩
def ty5 : TI := ⟨.int .u8, false, 1, 1, .int .u8, [], [.int .u8 0]⟩
def ty7 : TI := ⟨.struct, true, 4, 24, (.st (.pair (.int .i64) (.pair (.int .i64) (.pair .bool (.pair (.int .u8) .unit))))), [(0, 1, false), (1, 1, false), (2, 1, false), (3, 1, false)], [.int .i64 0, .int .i64 0, .bool false, .int .u8 0]⟩
def ty9 : TI := ⟨.str, false, 1, 16, .str, [], [.str ⟨#[]⟩]⟩
def ty12 : TI := ⟨.int .u64, false, 1, 8, .int .u64, [], [.int .u64 0]⟩
def ty13 : TI := ⟨.struct, true, 2, 24, (.st (.pair .str (.pair (.int .u64) .unit))), [(0, 1, false), (1, 1, false)], [.str ⟨#[]⟩, .int .u64 0]⟩
def ty15 : TI := ⟨.ptr 312, false, 1, 8, .unit, [], [.raw (.pointer none)]⟩
def ty16 : TI := ⟨.ptr 315, false, 1, 8, .unit, [], [.raw (.pointer none)]⟩
def ty17 : TI := ⟨.ptr 322, false, 1, 8, .unit, [], [.raw (.pointer none)]⟩
def ty18 : TI := ⟨.struct, true, 1, 8, .unit, [(0, 1, false)], [.raw (.pointer none)]⟩
def ty19 : TI := ⟨.struct, true, 1, 8, .unit, [(0, 1, false)], [.raw (.pointer none)]⟩
def ty21 : TI := ⟨.int .i32, false, 1, 4, .int .i32, [], [.int .i32 0]⟩
def ty22 : TI := ⟨.slice 84, false, 1, 24, (.sl (.st (.pair .str (.pair (.int .i64) (.pair .str .unit))))), [], [.emp]⟩
def ty23 : TI := ⟨.slice 87, false, 1, 24, (.sl (.st (.pair .str (.pair (.int .i64) (.pair (.int .i64) (.pair .str .unit)))))), [], [.emp]⟩
def ty26 : TI := ⟨.struct, true, 2, 24, (.st (.pair (.int .i64) (.pair .str .unit))), [(0, 1, false), (1, 1, false)], [.int .i64 0, .str ⟨#[]⟩]⟩
def ty27 : TI := ⟨.struct, true, 2, 24, (.st (.pair (.int .i64) (.pair .str .unit))), [(0, 1, false), (1, 1, false)], [.int .i64 0, .str ⟨#[]⟩]⟩
def ty29 : TI := ⟨.slice 90, false, 1, 24, (.sl (.st (.pair .str (.pair (.int .i64) (.pair .str .unit))))), [], [.emp]⟩
def ty31 : TI := ⟨.slice 92, false, 1, 24, (.sl (.st (.pair .str (.pair (.int .i64) (.pair (.int .i64) (.pair .str .unit)))))), [], [.emp]⟩
def ty37 : TI := ⟨.slice 99, false, 1, 24, (.sl (.st (.pair .str (.pair .str .unit)))), [], [.emp]⟩
def ty39 : TI := ⟨.slice 58, false, 1, 24, (.sl (.st (.pair .str (.pair (.int .i64) (.pair .str .unit))))), [], [.emp]⟩
def ty40 : TI := ⟨.struct, true, 3, 56, (.st (.pair (.int .i64) (.pair (.sl (.st (.pair .str (.pair (.int .i64) (.pair .str .unit))))) (.pair (.sl (.st (.pair .str (.pair (.int .i64) (.pair .str .unit))))) .unit)))), [(0, 1, false), (1, 1, false), (2, 1, false)], [.int .i64 0, .emp, .emp]⟩
def ty41 : TI := ⟨.struct, true, 3, 56, (.st (.pair (.int .i64) (.pair (.sl (.st (.pair .str (.pair (.int .i64) (.pair .str .unit))))) (.pair (.sl (.st (.pair .str (.pair (.int .i64) (.pair .str .unit))))) .unit)))), [(0, 1, false), (1, 1, false), (2, 1, false)], [.int .i64 0, .emp, .emp]⟩
def ty43 : TI := ⟨.slice 102, false, 1, 24, (.sl (.st (.pair .str (.pair .str .unit)))), [], [.emp]⟩
def ty52 : TI := ⟨.struct, true, 3, 40, (.st (.pair .str (.pair (.int .i64) (.pair .str .unit)))), [(0, 1, false), (1, 1, false), (2, 1, false)], [.str ⟨#[]⟩, .int .i64 0, .str ⟨#[]⟩]⟩
def ty53 : TI := ⟨.struct, true, 3, 40, (.st (.pair .str (.pair (.int .i64) (.pair .str .unit)))), [(0, 1, false), (1, 1, false), (2, 1, false)], [.str ⟨#[]⟩, .int .i64 0, .str ⟨#[]⟩]⟩
def ty55 : TI := ⟨.struct, true, 4, 80, (.st (.pair (.int .i64) (.pair (.sl (.st (.pair .str (.pair (.int .i64) (.pair .str .unit))))) (.pair (.sl (.st (.pair .str (.pair (.int .i64) (.pair (.int .i64) (.pair .str .unit)))))) (.pair (.sl (.st (.pair .str (.pair .str .unit)))) .unit))))), [(0, 1, false), (1, 1, false), (2, 1, false), (3, 1, false)], [.int .i64 0, .emp, .emp, .emp]⟩
def ty56 : TI := ⟨.struct, true, 4, 80, (.st (.pair (.int .i64) (.pair (.sl (.st (.pair .str (.pair (.int .i64) (.pair .str .unit))))) (.pair (.sl (.st (.pair .str (.pair (.int .i64) (.pair (.int .i64) (.pair .str .unit)))))) (.pair (.sl (.st (.pair .str (.pair .str .unit)))) .unit))))), [(0, 1, false), (1, 1, false), (2, 1, false), (3, 1, false)], [.int .i64 0, .emp, .emp, .emp]⟩
def ty58 : TI := ⟨.struct, true, 3, 40, (.st (.pair .str (.pair (.int .i64) (.pair .str .unit)))), [(0, 1, false), (1, 1, false), (2, 1, false)], [.str ⟨#[]⟩, .int .i64 0, .str ⟨#[]⟩]⟩
def ty63 : TI := ⟨.slice 114, false, 1, 24, (.sl (.st (.pair .str (.pair .str .unit)))), [], [.emp]⟩
def ty65 : TI := ⟨.struct, true, 4, 64, (.st (.pair (.int .i64) (.pair (.int .i64) (.pair (.sl (.st (.pair .str (.pair (.int .i64) (.pair .str .unit))))) (.pair (.sl (.st (.pair .str (.pair (.int .i64) (.pair (.int .i64) (.pair .str .unit)))))) .unit))))), [(0, 1, false), (1, 1, false), (2, 1, false), (3, 1, false)], [.int .i64 0, .int .i64 0, .emp, .emp]⟩
def ty66 : TI := ⟨.struct, true, 4, 64, (.st (.pair (.int .i64) (.pair (.int .i64) (.pair (.sl (.st (.pair .str (.pair (.int .i64) (.pair .str .unit))))) (.pair (.sl (.st (.pair .str (.pair (.int .i64) (.pair (.int .i64) (.pair .str .unit)))))) .unit))))), [(0, 1, false), (1, 1, false), (2, 1, false), (3, 1, false)], [.int .i64 0, .int .i64 0, .emp, .emp]⟩
def ty68 : TI := ⟨.slice 122, false, 1, 24, (.sl (.st (.pair .str (.pair .str .unit)))), [], [.emp]⟩
def ty75 : TI := ⟨.slice 53, false, 1, 24, (.sl (.st (.pair .str (.pair (.int .i64) (.pair .str .unit))))), [], [.emp]⟩
def ty83 : TI := ⟨.struct, true, 3, 40, (.st (.pair .str (.pair (.int .i64) (.pair .str .unit)))), [(0, 1, false), (1, 1, false), (2, 1, false)], [.str ⟨#[]⟩, .int .i64 0, .str ⟨#[]⟩]⟩
def ty84 : TI := ⟨.struct, true, 3, 40, (.st (.pair .str (.pair (.int .i64) (.pair .str .unit)))), [(0, 1, false), (1, 1, false), (2, 1, false)], [.str ⟨#[]⟩, .int .i64 0, .str ⟨#[]⟩]⟩
def ty86 : TI := ⟨.struct, true, 4, 48, (.st (.pair .str (.pair (.int .i64) (.pair (.int .i64) (.pair .str .unit))))), [(0, 1, false), (1, 1, false), (2, 1, false), (3, 1, false)], [.str ⟨#[]⟩, .int .i64 0, .int .i64 0, .str ⟨#[]⟩]⟩
def ty87 : TI := ⟨.struct, true, 4, 48, (.st (.pair .str (.pair (.int .i64) (.pair (.int .i64) (.pair .str .unit))))), [(0, 1, false), (1, 1, false), (2, 1, false), (3, 1, false)], [.str ⟨#[]⟩, .int .i64 0, .int .i64 0, .str ⟨#[]⟩]⟩
def ty90 : TI := ⟨.struct, true, 3, 40, (.st (.pair .str (.pair (.int .i64) (.pair .str .unit)))), [(0, 1, false), (1, 1, false), (2, 1, false)], [.str ⟨#[]⟩, .int .i64 0, .str ⟨#[]⟩]⟩
def ty92 : TI := ⟨.struct, true, 4, 48, (.st (.pair .str (.pair (.int .i64) (.pair (.int .i64) (.pair .str .unit))))), [(0, 1, false), (1, 1, false), (2, 1, false), (3, 1, false)], [.str ⟨#[]⟩, .int .i64 0, .int .i64 0, .str ⟨#[]⟩]⟩
def ty98 : TI := ⟨.struct, true, 2, 32, (.st (.pair .str (.pair .str .unit))), [(0, 1, false), (1, 1, false)], [.str ⟨#[]⟩, .str ⟨#[]⟩]⟩
def ty99 : TI := ⟨.struct, true, 2, 32, (.st (.pair .str (.pair .str .unit))), [(0, 1, false), (1, 1, false)], [.str ⟨#[]⟩, .str ⟨#[]⟩]⟩
def ty102 : TI := ⟨.struct, true, 2, 32, (.st (.pair .str (.pair .str .unit))), [(0, 1, false), (1, 1, false)], [.str ⟨#[]⟩, .str ⟨#[]⟩]⟩
def ty109 : TI := ⟨.array 3 58, true, 9, 120, (.st (.pair (.st (.pair .str (.pair (.int .i64) (.pair .str .unit)))) (.pair (.st (.pair .str (.pair (.int .i64) (.pair .str .unit)))) (.pair (.st (.pair .str (.pair (.int .i64) (.pair .str .unit)))) .unit)))), [], [.str ⟨#[]⟩, .int .i64 0, .str ⟨#[]⟩, .str ⟨#[]⟩, .int .i64 0, .str ⟨#[]⟩, .str ⟨#[]⟩, .int .i64 0, .str ⟨#[]⟩]⟩
def ty113 : TI := ⟨.struct, true, 2, 32, (.st (.pair .str (.pair .str .unit))), [(0, 1, false), (1, 1, false)], [.str ⟨#[]⟩, .str ⟨#[]⟩]⟩
def ty114 : TI := ⟨.struct, true, 2, 32, (.st (.pair .str (.pair .str .unit))), [(0, 1, false), (1, 1, false)], [.str ⟨#[]⟩, .str ⟨#[]⟩]⟩
def ty116 : TI := ⟨.slice 9, false, 1, 24, (.sl .str), [], [.emp]⟩
def ty122 : TI := ⟨.struct, true, 2, 32, (.st (.pair .str (.pair .str .unit))), [(0, 1, false), (1, 1, false)], [.str ⟨#[]⟩, .str ⟨#[]⟩]⟩
def ty126 : TI := ⟨.slice 39, false, 1, 24, (.sl (.sl (.st (.pair .str (.pair (.int .i64) (.pair .str .unit)))))), [], [.emp]⟩
def ty136 : TI := ⟨.slice 2, false, 1, 24, (.sl (.int .i64)), [], [.emp]⟩
def ty141 : TI := ⟨.array 4 9, true, 4, 64, (.st (.pair .str (.pair .str (.pair .str (.pair .str .unit))))), [], [.str ⟨#[]⟩, .str ⟨#[]⟩, .str ⟨#[]⟩, .str ⟨#[]⟩]⟩
def ty142 : TI := ⟨.array 4 4, true, 4, 4, (.st (.pair .bool (.pair .bool (.pair .bool (.pair .bool .unit))))), [], [.bool false, .bool false, .bool false, .bool false]⟩
def ty147 : TI := ⟨.map 9 4, false, 1, 8, .unit, [], [.top]⟩
def ty148 : TI := ⟨.struct, true, 3, 48, (.st (.pair (.int .i64) (.pair .str (.pair (.sl (.st (.pair .str (.pair (.int .i64) (.pair .str .unit))))) .unit)))), [(0, 1, false), (1, 1, false), (2, 1, false)], [.int .i64 0, .str ⟨#[]⟩, .emp]⟩
def ty149 : TI := ⟨.struct, true, 3, 48, (.st (.pair (.int .i64) (.pair .str (.pair (.sl (.st (.pair .str (.pair (.int .i64) (.pair .str .unit))))) .unit)))), [(0, 1, false), (1, 1, false), (2, 1, false)], [.int .i64 0, .str ⟨#[]⟩, .emp]⟩
def ty152 : TI := ⟨.slice 5, false, 1, 24, (.sl (.int .u8)), [], [.emp]⟩
def ty184 : TI := ⟨.ptr 186, false, 1, 8, .unit, [], [.raw (.pointer none)]⟩
def ty185 : TI := ⟨.struct, true, 2, 32, .unit, [(0, 1, false), (1, 1, false)], [.raw (.pointer none), .emp]⟩
def ty186 : TI := ⟨.struct, true, 2, 32, .unit, [(0, 1, false), (1, 1, false)], [.raw (.pointer none), .raw (.slice none 0 0)]⟩
def ty187 : TI := ⟨.slice 190, false, 1, 24, (.sl (.st (.pair (.int .i64) (.pair (.sl .str) (.pair (.sl .str) (.pair (.sl .str) .unit)))))), [], [.emp]⟩
def ty189 : TI := ⟨.struct, true, 4, 80, (.st (.pair (.int .i64) (.pair (.sl .str) (.pair (.sl .str) (.pair (.sl .str) .unit))))), [(0, 1, false), (1, 1, false), (2, 1, false), (3, 1, false)], [.int .i64 0, .emp, .emp, .emp]⟩
def ty190 : TI := ⟨.struct, true, 4, 80, (.st (.pair (.int .i64) (.pair (.sl .str) (.pair (.sl .str) (.pair (.sl .str) .unit))))), [(0, 1, false), (1, 1, false), (2, 1, false), (3, 1, false)], [.int .i64 0, .emp, .emp, .emp]⟩
def ty193 : TI := ⟨.other, false, 1, 16, .unit, [], [.raw .nilIface]⟩
def ty206 : TI := ⟨.struct, true, 3, 32, (.st (.pair (.int .i64) (.pair (.int .i64) (.pair .str .unit)))), [(0, 1, false), (1, 1, false), (2, 1, false)], [.int .i64 0, .int .i64 0, .str ⟨#[]⟩]⟩
def ty207 : TI := ⟨.struct, true, 3, 32, (.st (.pair (.int .i64) (.pair (.int .i64) (.pair .str .unit)))), [(0, 1, false), (1, 1, false), (2, 1, false)], [.int .i64 0, .int .i64 0, .str ⟨#[]⟩]⟩
def ty220 : TI := ⟨.int .u64, false, 1, 8, .int .u64, [], [.int .u64 0]⟩
def ty228 : TI := ⟨.slice 3, false, 1, 24, (.sl (.int .i64)), [], [.emp]⟩
def ty234 : TI := ⟨.ptr 5, false, 1, 8, .unit, [], [.raw (.pointer none)]⟩
def ty244 : TI := ⟨.array 24 5, true, 24, 24, .unit, [], [.top]⟩
def ty245 : TI := ⟨.int .u64, false, 1, 8, .int .u64, [], [.int .u64 0]⟩
def ty250 : TI := ⟨.int .u32, false, 1, 4, .int .u32, [], [.int .u32 0]⟩
def ty257 : TI := ⟨.array 256 4, true, 256, 256, .unit, [], [.top]⟩
def ty258 : TI := ⟨.array 256 4, true, 256, 256, .unit, [], [.top]⟩
def ty262 : TI := ⟨.ptr 258, false, 1, 8, .unit, [], [.raw (.pointer none)]⟩
def ty266 : TI := ⟨.other, false, 1, 8, .unit, [], [.raw (.pointer none)]⟩
def ty269 : TI := ⟨.int .i64, false, 1, 8, .int .i64, [], [.int .i64 0]⟩
def ty278 : TI := ⟨.array 20 245, true, 20, 160, .unit, [], [.top]⟩
def ty279 : TI := ⟨.array 65 5, true, 65, 65, .unit, [], [.top]⟩
def ty286 : TI := ⟨.slice 136, false, 1, 24, (.sl (.sl (.int .i64))), [], [.emp]⟩
def ty292 : TI := ⟨.int .u64, false, 1, 8, .int .u64, [], [.int .u64 0]⟩
def ty296 : TI := ⟨.ptr 3, false, 1, 8, .unit, [], [.raw (.pointer none)]⟩
def ty299 : TI := ⟨.ptr 292, false, 1, 8, .unit, [], [.raw (.pointer none)]⟩
def ty303 : TI := ⟨.array 32 5, true, 32, 32, .unit, [], [.top]⟩
def ty304 : TI := ⟨.array 64 5, true, 64, 64, .unit, [], [.top]⟩
def ty305 : TI := ⟨.array 256 5, true, 256, 256, .unit, [], [.top]⟩
def ty306 : TI := ⟨.struct, true, 2, 2, (.st (.pair (.int .u8) (.pair (.int .u8) .unit))), [(0, 1, false), (1, 1, false)], [.int .u8 0, .int .u8 0]⟩
def ty307 : TI := ⟨.struct, true, 2, 2, (.st (.pair (.int .u8) (.pair (.int .u8) .unit))), [(0, 1, false), (1, 1, false)], [.int .u8 0, .int .u8 0]⟩
def ty308 : TI := ⟨.array 16 307, true, 32, 32, .unit, [], [.int .u8 0, .int .u8 0, .int .u8 0, .int .u8 0, .int .u8 0, .int .u8 0, .int .u8 0, .int .u8 0, .int .u8 0, .int .u8 0, .int .u8 0, .int .u8 0, .int .u8 0, .int .u8 0, .int .u8 0, .int .u8 0, .int .u8 0, .int .u8 0, .int .u8 0, .int .u8 0, .int .u8 0, .int .u8 0, .int .u8 0, .int .u8 0, .int .u8 0, .int .u8 0, .int .u8 0, .int .u8 0, .int .u8 0, .int .u8 0, .int .u8 0, .int .u8 0]⟩
def ty311 : TI := ⟨.struct, true, 4, 40, .unit, [(0, 1, false), (1, 1, false), (2, 1, false), (3, 1, false)], [.raw (.pointer none), .raw (.pointer none), .raw (.pointer none), .str ⟨#[]⟩]⟩
def ty313 : TI := ⟨.other, true, 0, 0, .unit, [], []⟩
def ty314 : TI := ⟨.struct, true, 0, 0, .unit, [(0, 0, true)], []⟩
def ty319 : TI := ⟨.int .i32, false, 1, 4, .int .i32, [], [.int .i32 0]⟩
def ty320 : TI := ⟨.int .i32, false, 1, 4, .int .i32, [], [.int .i32 0]⟩
def ty321 : TI := ⟨.struct, true, 11, 48, .unit, [(0, 1, false), (1, 1, false), (2, 1, false), (3, 1, false), (4, 1, false), (5, 1, false), (6, 1, false), (7, 1, false), (8, 1, false), (9, 1, false), (10, 1, false)], [.int .u64 0, .int .u64 0, .int .u32 0, .int .u8 0, .int .u8 0, .int .u8 0, .int .u8 0, .raw .nilFunc, .raw (.pointer none), .int .i32 0, .int .i32 0]⟩
def ty322 : TI := ⟨.struct, true, 11, 48, .unit, [(0, 1, false), (1, 1, false), (2, 1, false), (3, 1, false), (4, 1, false), (5, 1, false), (6, 1, false), (7, 1, false), (8, 1, false), (9, 1, false), (10, 1, false)], [.int .u64 0, .int .u64 0, .int .u32 0, .int .u8 0, .int .u8 0, .int .u8 0, .int .u8 0, .raw .nilFunc, .raw (.pointer none), .int .i32 0, .int .i32 0]⟩
def tiT : Tr TI := (.node 122 ty122 (.node 43 ty43 (.node 19 ty19 (.node 12 ty12 (.node 5 ty5 (.node 3 ty3 (.node 2 ty2 .leaf .leaf) (.node 4 ty4 .leaf .leaf)) (.node 9 ty9 (.node 7 ty7 .leaf .leaf) .leaf)) (.node 16 ty16 (.node 15 ty15 (.node 13 ty13 .leaf .leaf) .leaf) (.node 18 ty18 (.node 17 ty17 .leaf .leaf) .leaf))) (.node 29 ty29 (.node 23 ty23 (.node 22 ty22 (.node 21 ty21 .leaf .leaf) .leaf) (.node 27 ty27 (.node 26 ty26 .leaf .leaf) .leaf)) (.node 39 ty39 (.node 37 ty37 (.node 31 ty31 .leaf .leaf) .leaf) (.node 41 ty41 (.node 40 ty40 .leaf .leaf) .leaf)))) (.node 84 ty84 (.node 63 ty63 (.node 55 ty55 (.node 53 ty53 (.node 52 ty52 .leaf .leaf) .leaf) (.node 58 ty58 (.node 56 ty56 .leaf .leaf) .leaf)) (.node 68 ty68 (.node 66 ty66 (.node 65 ty65 .leaf .leaf) .leaf) (.node 83 ty83 (.node 75 ty75 .leaf .leaf) .leaf))) (.node 99 ty99 (.node 90 ty90 (.node 87 ty87 (.node 86 ty86 .leaf .leaf) .leaf) (.node 98 ty98 (.node 92 ty92 .leaf .leaf) .leaf)) (.node 113 ty113 (.node 109 ty109 (.node 102 ty102 .leaf .leaf) .leaf) (.node 116 ty116 (.node 114 ty114 .leaf .leaf) .leaf))))) (.node 257 ty257 (.node 187 ty187 (.node 148 ty148 (.node 141 ty141 (.node 136 ty136 (.node 126 ty126 .leaf .leaf) .leaf) (.node 147 ty147 (.node 142 ty142 .leaf .leaf) .leaf)) (.node 184 ty184 (.node 152 ty152 (.node 149 ty149 .leaf .leaf) .leaf) (.node 186 ty186 (.node 185 ty185 .leaf .leaf) .leaf))) (.node 220 ty220 (.node 193 ty193 (.node 190 ty190 (.node 189 ty189 .leaf .leaf) .leaf) (.node 207 ty207 (.node 206 ty206 .leaf .leaf) .leaf)) (.node 244 ty244 (.node 234 ty234 (.node 228 ty228 .leaf .leaf) .leaf) (.node 250 ty250 (.node 245 ty245 .leaf .leaf) .leaf)))) (.node 304 ty304 (.node 279 ty279 (.node 266 ty266 (.node 262 ty262 (.node 258 ty258 .leaf .leaf) .leaf) (.node 278 ty278 (.node 269 ty269 .leaf .leaf) .leaf)) (.node 296 ty296 (.node 292 ty292 (.node 286 ty286 .leaf .leaf) .leaf) (.node 303 ty303 (.node 299 ty299 .leaf .leaf) .leaf))) (.node 313 ty313 (.node 307 ty307 (.node 306 ty306 (.node 305 ty305 .leaf .leaf) .leaf) (.node 311 ty311 (.node 308 ty308 .leaf .leaf) .leaf)) (.node 320 ty320 (.node 319 ty319 (.node 314 ty314 .leaf .leaf) .leaf) (.node 322 ty322 (.node 321 ty321 .leaf .leaf) .leaf))))))
/-- loop.example/g00172/laws.FnExactPreOf -/
noncomputable def fi3 : FI := ⟨Go.Proofs.Tryz.f3, [], [.bool], false, false, false, [], false⟩
/-- loop.example/g00172/laws.FnExactSettleClashes -/
noncomputable def fi4 : FI := ⟨Go.Proofs.Tryz.f4, [], [.bool], false, false, false, [], false⟩
/-- loop.example/g00172/laws.FnExactMergePath -/
noncomputable def fi5 : FI := ⟨Go.Proofs.Tryz.f5, [], [.bool], false, false, false, [], false⟩
/-- loop.example/g00172/laws.FnExactReplayRules -/
noncomputable def fi6 : FI := ⟨Go.Proofs.Tryz.f6, [], [.bool], false, false, false, [], false⟩
/-- loop.example/g00172/laws.FnExactMergeTrees -/
noncomputable def fi7 : FI := ⟨Go.Proofs.Tryz.f7, [], [.bool], false, false, false, [], false⟩
/-- loop.example/g00172/laws.szObjectS -/
noncomputable def fi8 : FI := ⟨Go.Proofs.Tryz.f8, [(5, [0, 1, 5], [])], [.int .i64], false, false, false, [], false⟩
/-- loop.example/g00172/laws.szEntryS -/
noncomputable def fi9 : FI := ⟨Go.Proofs.Tryz.f9, [(5, [0, 1, 5], [])], [.int .i64], false, false, false, [], false⟩
/-- loop.example/g00172/spec.PreOf -/
noncomputable def fi10 : FI := ⟨Go.Proofs.Tryz.f10, [], [(.st (.pair (.int .i64) (.pair .str .unit)))], false, false, false, [], false⟩
/-- loop.example/g00172/laws.toObjectS -/
noncomputable def fi11 : FI := ⟨Go.Proofs.Tryz.f11, [(3, [0, 3, 4], [])], [(.sl (.st (.pair .str (.pair (.int .i64) (.pair .str .unit)))))], true, false, false, [], false⟩
/-- loop.example/g00172/laws.toEntryS -/
noncomputable def fi12 : FI := ⟨Go.Proofs.Tryz.f12, [(3, [0, 3, 4], [])], [(.sl (.st (.pair .str (.pair (.int .i64) (.pair (.int .i64) (.pair .str .unit))))))], true, false, false, [], false⟩
/-- loop.example/g00172/impl.PreOf -/
noncomputable def fi13 : FI := ⟨Go.Proofs.Tryz.f13, [], [(.st (.pair (.int .i64) (.pair .str .unit)))], false, false, false, [], false⟩
/-- loop.example/g00172/laws.eqTextResult -/
noncomputable def fi14 : FI := ⟨Go.Proofs.Tryz.f14, [], [.bool], false, false, false, [], false⟩
/-- loop.example/g00172/laws.eqObjectS -/
noncomputable def fi15 : FI := ⟨Go.Proofs.Tryz.f15, [(4, [0, 1, 5], [])], [.bool], false, false, false, [], false⟩
/-- loop.example/g00172/laws.eqEntryS -/
noncomputable def fi16 : FI := ⟨Go.Proofs.Tryz.f16, [(4, [0, 1, 5], [])], [.bool], false, false, false, [], false⟩
/-- loop.example/g00172/laws.szWorkS -/
noncomputable def fi17 : FI := ⟨Go.Proofs.Tryz.f17, [(5, [0, 1, 5], [])], [.int .i64], false, false, false, [], false⟩
/-- loop.example/g00172/spec.SettleClashes -/
noncomputable def fi18 : FI := ⟨Go.Proofs.Tryz.f18, [], [(.st (.pair (.int .i64) (.pair (.sl (.st (.pair .str (.pair (.int .i64) (.pair .str .unit))))) (.pair (.sl (.st (.pair .str (.pair (.int .i64) (.pair .str .unit))))) .unit))))], false, false, false, [], false⟩
/-- loop.example/g00172/laws.toWorkS -/
noncomputable def fi19 : FI := ⟨Go.Proofs.Tryz.f19, [(3, [0, 3, 4], [])], [(.sl (.st (.pair .str (.pair .str .unit))))], true, false, false, [], false⟩
/-- loop.example/g00172/impl.SettleClashes -/
noncomputable def fi20 : FI := ⟨Go.Proofs.Tryz.f20, [], [(.st (.pair (.int .i64) (.pair (.sl (.st (.pair .str (.pair (.int .i64) (.pair .str .unit))))) (.pair (.sl (.st (.pair .str (.pair (.int .i64) (.pair .str .unit))))) .unit))))], true, false, false, [], false⟩
/-- loop.example/g00172/laws.eqBaseResult -/
noncomputable def fi21 : FI := ⟨Go.Proofs.Tryz.f21, [], [.bool], false, false, false, [], false⟩
/-- loop.example/g00172/laws.eqWorkS -/
noncomputable def fi22 : FI := ⟨Go.Proofs.Tryz.f22, [(4, [0, 1, 5], [])], [.bool], false, false, false, [], false⟩
/-- loop.example/g00172/laws.markObjectS -/
noncomputable def fi23 : FI := ⟨Go.Proofs.Tryz.f23, [(2, [0, 1, 5], [])], [.int .i64], true, false, true, [.arr (.st (.pair .str (.pair (.int .i64) (.pair .str .unit))))], false⟩
/-- loop.example/g00172/laws.markEntryS -/
noncomputable def fi24 : FI := ⟨Go.Proofs.Tryz.f24, [(2, [0, 1, 5], [])], [.int .i64], true, false, true, [.arr (.st (.pair .str (.pair (.int .i64) (.pair (.int .i64) (.pair .str .unit)))))], false⟩
/-- loop.example/g00172/laws.markWorkS -/
noncomputable def fi25 : FI := ⟨Go.Proofs.Tryz.f25, [(2, [0, 1, 5], [])], [.int .i64], true, false, true, [.arr (.st (.pair .str (.pair .str .unit)))], false⟩
/-- loop.example/g00172/laws.markBaseResult -/
noncomputable def fi26 : FI := ⟨Go.Proofs.Tryz.f26, [], [.int .i64], true, false, true, [.arr (.st (.pair .str (.pair (.int .i64) (.pair .str .unit)))), .arr (.st (.pair .str (.pair (.int .i64) (.pair .str .unit))))], false⟩
/-- loop.example/g00172/laws.heldBaseResult -/
noncomputable def fi27 : FI := ⟨Go.Proofs.Tryz.f27, [], [.int .i64], false, false, false, [], false⟩
/-- loop.example/g00172/laws.szFile -/
noncomputable def fi28 : FI := ⟨Go.Proofs.Tryz.f28, [], [.int .i64], false, false, false, [], false⟩
/-- loop.example/g00172/spec.MergePath -/
noncomputable def fi29 : FI := ⟨Go.Proofs.Tryz.f29, [(6, [0, 5, 6, 7, 8, 10, 11], [])], [(.st (.pair (.int .i64) (.pair (.sl (.st (.pair .str (.pair (.int .i64) (.pair .str .unit))))) (.pair (.sl (.st (.pair .str (.pair (.int .i64) (.pair (.int .i64) (.pair .str .unit)))))) (.pair (.sl (.st (.pair .str (.pair .str .unit)))) .unit)))))], false, false, false, [], false⟩
/-- loop.example/g00172/laws.toFile -/
noncomputable def fi30 : FI := ⟨Go.Proofs.Tryz.f30, [], [(.st (.pair .str (.pair (.int .i64) (.pair .str .unit))))], false, false, false, [], false⟩
/-- loop.example/g00172/impl.MergePath -/
noncomputable def fi31 : FI := ⟨Go.Proofs.Tryz.f31, [(6, [0, 5, 6, 7, 8, 10, 24, 25], [])], [(.st (.pair (.int .i64) (.pair (.sl (.st (.pair .str (.pair (.int .i64) (.pair .str .unit))))) (.pair (.sl (.st (.pair .str (.pair (.int .i64) (.pair (.int .i64) (.pair .str .unit)))))) (.pair (.sl (.st (.pair .str (.pair .str .unit)))) .unit)))))], true, false, false, [], false⟩
/-- loop.example/g00172/laws.eqTreesResult -/
noncomputable def fi32 : FI := ⟨Go.Proofs.Tryz.f32, [], [.bool], false, false, false, [], false⟩
/-- loop.example/g00172/laws.markTreesResult -/
noncomputable def fi33 : FI := ⟨Go.Proofs.Tryz.f33, [], [.int .i64], true, false, true, [.arr (.st (.pair .str (.pair (.int .i64) (.pair .str .unit)))), .arr (.st (.pair .str (.pair (.int .i64) (.pair (.int .i64) (.pair .str .unit))))), .arr (.st (.pair .str (.pair .str .unit)))], false⟩
/-- loop.example/g00172/laws.heldTreesResult -/
noncomputable def fi34 : FI := ⟨Go.Proofs.Tryz.f34, [], [.int .i64], false, false, false, [], false⟩
/-- loop.example/g00172/laws.szRuleS -/
noncomputable def fi35 : FI := ⟨Go.Proofs.Tryz.f35, [(5, [0, 1, 5], [])], [.int .i64], false, false, false, [], false⟩
/-- loop.example/g00172/spec.ReplayRules -/
noncomputable def fi36 : FI := ⟨Go.Proofs.Tryz.f36, [(13, [0, 1, 2, 6, 10, 11, 12], [(10, some 2, .give T_Object), (10, some 3, .give T_Entry)])], [(.st (.pair (.int .i64) (.pair (.int .i64) (.pair (.sl (.st (.pair .str (.pair (.int .i64) (.pair .str .unit))))) (.pair (.sl (.st (.pair .str (.pair (.int .i64) (.pair (.int .i64) (.pair .str .unit)))))) .unit)))))], false, false, false, [], false⟩
/-- loop.example/g00172/laws.toRuleS -/
noncomputable def fi37 : FI := ⟨Go.Proofs.Tryz.f37, [(3, [0, 3, 4], [])], [(.sl (.st (.pair .str (.pair .str .unit))))], true, false, false, [], false⟩
/-- loop.example/g00172/impl.ReplayRules -/
noncomputable def fi38 : FI := ⟨Go.Proofs.Tryz.f38, [], [(.st (.pair (.int .i64) (.pair (.int .i64) (.pair (.sl (.st (.pair .str (.pair (.int .i64) (.pair .str .unit))))) (.pair (.sl (.st (.pair .str (.pair (.int .i64) (.pair (.int .i64) (.pair .str .unit)))))) .unit)))))], true, false, false, [], false⟩
/-- loop.example/g00172/laws.eqReplayResult -/
noncomputable def fi39 : FI := ⟨Go.Proofs.Tryz.f39, [], [.bool], false, false, false, [], false⟩
/-- loop.example/g00172/laws.eqRuleS -/
noncomputable def fi40 : FI := ⟨Go.Proofs.Tryz.f40, [(4, [0, 1, 5], [])], [.bool], false, false, false, [], false⟩
/-- loop.example/g00172/laws.markRuleS -/
noncomputable def fi41 : FI := ⟨Go.Proofs.Tryz.f41, [(2, [0, 1, 5], [])], [.int .i64], true, false, true, [.arr (.st (.pair .str (.pair .str .unit)))], false⟩
/-- loop.example/g00172/laws.markReplayResult -/
noncomputable def fi42 : FI := ⟨Go.Proofs.Tryz.f42, [], [.int .i64], true, false, true, [.arr (.st (.pair .str (.pair (.int .i64) (.pair .str .unit)))), .arr (.st (.pair .str (.pair (.int .i64) (.pair (.int .i64) (.pair .str .unit)))))], false⟩
/-- loop.example/g00172/laws.heldReplayResult -/
noncomputable def fi43 : FI := ⟨Go.Proofs.Tryz.f43, [], [.int .i64], false, false, false, [], false⟩
/-- loop.example/g00172/laws.szFileS -/
noncomputable def fi44 : FI := ⟨Go.Proofs.Tryz.f44, [(5, [0, 1, 5], [])], [.int .i64], false, false, false, [], false⟩
/-- loop.example/g00172/spec.MergeTrees -/
noncomputable def fi45 : FI := ⟨Go.Proofs.Tryz.f45, [(6, [0, 1, 2, 3, 8, 10, 11], []), (12, [0, 1, 2, 3, 8, 10, 13], [])], [(.st (.pair (.int .i64) (.pair (.sl (.st (.pair .str (.pair (.int .i64) (.pair .str .unit))))) (.pair (.sl (.st (.pair .str (.pair (.int .i64) (.pair (.int .i64) (.pair .str .unit)))))) (.pair (.sl (.st (.pair .str (.pair .str .unit)))) .unit)))))], false, false, false, [], false⟩
/-- loop.example/g00172/laws.toFileS -/
noncomputable def fi46 : FI := ⟨Go.Proofs.Tryz.f46, [(3, [0, 3, 4], [])], [(.sl (.st (.pair .str (.pair (.int .i64) (.pair .str .unit)))))], true, false, false, [], false⟩
/-- loop.example/g00172/impl.MergeTrees -/
noncomputable def fi47 : FI := ⟨Go.Proofs.Tryz.f47, [], [(.st (.pair (.int .i64) (.pair (.sl (.st (.pair .str (.pair (.int .i64) (.pair .str .unit))))) (.pair (.sl (.st (.pair .str (.pair (.int .i64) (.pair (.int .i64) (.pair .str .unit)))))) (.pair (.sl (.st (.pair .str (.pair .str .unit)))) .unit)))))], true, false, false, [], false⟩
/-- loop.example/g00172/laws.eqFileS -/
noncomputable def fi48 : FI := ⟨Go.Proofs.Tryz.f48, [(4, [0, 1, 5], [])], [.bool], false, false, false, [], false⟩
/-- loop.example/g00172/laws.markFileS -/
noncomputable def fi49 : FI := ⟨Go.Proofs.Tryz.f49, [(2, [0, 1, 5], [])], [.int .i64], true, false, true, [.arr (.st (.pair .str (.pair (.int .i64) (.pair .str .unit))))], false⟩
/-- loop.example/g00172/laws.szObject -/
noncomputable def fi50 : FI := ⟨Go.Proofs.Tryz.f50, [], [.int .i64], false, false, false, [], false⟩
/-- loop.example/g00172/laws.szEntry -/
noncomputable def fi51 : FI := ⟨Go.Proofs.Tryz.f51, [], [.int .i64], false, false, false, [], false⟩
/-- loop.example/g00172/spec.StoreFault -/
noncomputable def fi52 : FI := ⟨Go.Proofs.Tryz.f52, [(4, [0, 3], [])], [.int .i64], false, false, false, [], false⟩
/-- loop.example/g00172/spec.IndexFault -/
noncomputable def fi53 : FI := ⟨Go.Proofs.Tryz.f53, [(4, [0, 3], [])], [.int .i64], false, false, false, [], false⟩
/-- loop.example/g00172/spec.l13PreOf -/
noncomputable def fi54 : FI := ⟨Go.Proofs.Tryz.f54, [(7, [0, 6, 8, 9, 10], [])], [(.st (.pair (.int .i64) (.pair .str .unit)))], false, false, false, [], false⟩
/-- loop.example/g00172/laws.toObject -/
noncomputable def fi55 : FI := ⟨Go.Proofs.Tryz.f55, [], [(.st (.pair .str (.pair (.int .i64) (.pair .str .unit))))], false, false, false, [], false⟩
/-- loop.example/g00172/laws.toEntry -/
noncomputable def fi56 : FI := ⟨Go.Proofs.Tryz.f56, [], [(.st (.pair .str (.pair (.int .i64) (.pair (.int .i64) (.pair .str .unit)))))], false, false, false, [], false⟩
/-- loop.example/g00172/impl.firstCode -/
noncomputable def fi57 : FI := ⟨Go.Proofs.Tryz.f57, [(2, [5, 6, 7], [])], [.int .i64], false, false, false, [], false⟩
/-- loop.example/g00172/impl.StoreFault -/
noncomputable def fi58 : FI := ⟨Go.Proofs.Tryz.f58, [(4, [0, 9, 10, 11], [])], [.int .i64], false, false, false, [], false⟩
/-- loop.example/g00172/impl.IndexFault -/
noncomputable def fi59 : FI := ⟨Go.Proofs.Tryz.f59, [(4, [0, 8, 9, 10], [])], [.int .i64], false, false, false, [], false⟩
/-- loop.example/g00172/impl.preOf -/
noncomputable def fi60 : FI := ⟨Go.Proofs.Tryz.f60, [(3, [0, 2, 6, 7, 8, 9, 10, 18, 19, 20], [])], [(.st (.pair (.int .i64) (.pair .str .unit)))], false, false, false, [], false⟩
/-- loop.example/g00172/laws.eqObject -/
noncomputable def fi61 : FI := ⟨Go.Proofs.Tryz.f61, [], [.bool], false, false, false, [], false⟩
/-- loop.example/g00172/laws.eqEntry -/
noncomputable def fi62 : FI := ⟨Go.Proofs.Tryz.f62, [], [.bool], false, false, false, [], false⟩
/-- loop.example/g00172/laws.szWork -/
noncomputable def fi63 : FI := ⟨Go.Proofs.Tryz.f63, [], [.int .i64], false, false, false, [], false⟩
/-- loop.example/g00172/spec.l12Bad -/
noncomputable def fi64 : FI := ⟨Go.Proofs.Tryz.f64, [], [(.st (.pair (.int .i64) (.pair (.sl (.st (.pair .str (.pair (.int .i64) (.pair .str .unit))))) (.pair (.sl (.st (.pair .str (.pair (.int .i64) (.pair .str .unit))))) .unit))))], false, false, false, [], false⟩
/-- loop.example/g00172/spec.l12Settle -/
noncomputable def fi65 : FI := ⟨Go.Proofs.Tryz.f65, [(4, [1, 2, 6, 7, 8, 9], [(7, some 1, .give T_Object), (7, some 2, .whole T_Object)]), (17, [1, 2, 6, 7, 8, 9, 13, 15], [(7, some 1, .give T_Object), (7, some 2, .whole T_Object)])], [(.st (.pair (.int .i64) (.pair (.sl (.st (.pair .str (.pair (.int .i64) (.pair .str .unit))))) (.pair (.sl (.st (.pair .str (.pair (.int .i64) (.pair .str .unit))))) .unit))))], false, false, false, [], false⟩
/-- loop.example/g00172/spec.l5Copy -/
noncomputable def fi66 : FI := ⟨Go.Proofs.Tryz.f66, [], [(.sl (.st (.pair .str (.pair (.int .i64) (.pair .str .unit)))))], true, false, false, [], false⟩
/-- loop.example/g00172/laws.toWork -/
noncomputable def fi67 : FI := ⟨Go.Proofs.Tryz.f67, [], [(.st (.pair .str (.pair .str .unit)))], false, false, false, [], false⟩
/-- loop.example/g00172/impl.settle -/
noncomputable def fi68 : FI := ⟨Go.Proofs.Tryz.f68, [(3, [0, 2, 6, 7, 8, 18, 19, 20], [])], [(.st (.pair (.int .i64) (.pair (.sl (.st (.pair .str (.pair (.int .i64) (.pair .str .unit))))) (.pair (.sl (.st (.pair .str (.pair (.int .i64) (.pair .str .unit))))) .unit))))], true, false, false, [], false⟩
/-- loop.example/g00172/laws.eqWork -/
noncomputable def fi69 : FI := ⟨Go.Proofs.Tryz.f69, [], [.bool], false, false, false, [], false⟩
/-- loop.example/g00172/laws.markText -/
noncomputable def fi70 : FI := ⟨Go.Proofs.Tryz.f70, [(4, [0, 3], [])], [.str], false, false, false, [], false⟩
/-- loop.example/g00172/laws.heldObjectS -/
noncomputable def fi71 : FI := ⟨Go.Proofs.Tryz.f71, [(2, [0, 1, 5], [])], [.int .i64], false, false, false, [], false⟩
/-- loop.example/g00172/laws.heldFileS -/
noncomputable def fi72 : FI := ⟨Go.Proofs.Tryz.f72, [(2, [0, 1, 5], [])], [.int .i64], false, false, false, [], false⟩
/-- loop.example/g00172/spec.l11Some -/
noncomputable def fi73 : FI := ⟨Go.Proofs.Tryz.f73, [(3, [0, 3, 4], [])], [(.sl (.st (.pair .str (.pair (.int .i64) (.pair .str .unit)))))], false, false, false, [], false⟩
/-- loop.example/g00172/spec.FilesFault -/
noncomputable def fi74 : FI := ⟨Go.Proofs.Tryz.f74, [(4, [0, 3], []), (15, [0, 6], []), (18, [0, 6, 7], [])], [.int .i64], false, false, false, [], false⟩
/-- loop.example/g00172/spec.l11Blobs -/
noncomputable def fi75 : FI := ⟨Go.Proofs.Tryz.f75, [(2, [0, 1, 5], [])], [.bool], false, false, false, [], false⟩
/-- loop.example/g00172/spec.l11Path -/
noncomputable def fi76 : FI := ⟨Go.Proofs.Tryz.f76, [], [(.st (.pair (.int .i64) (.pair (.sl (.st (.pair .str (.pair (.int .i64) (.pair .str .unit))))) (.pair (.sl (.st (.pair .str (.pair (.int .i64) (.pair (.int .i64) (.pair .str .unit)))))) (.pair (.sl (.st (.pair .str (.pair .str .unit)))) .unit)))))], false, false, false, [], false⟩
/-- loop.example/g00172/impl.isNone -/
noncomputable def fi77 : FI := ⟨Go.Proofs.Tryz.f77, [], [.bool], false, false, false, [], false⟩
/-- loop.example/g00172/impl.FilesFault -/
noncomputable def fi78 : FI := ⟨Go.Proofs.Tryz.f78, [(4, [0, 10, 11, 12], []), (14, [0, 48, 49, 50], []), (16, [0, 6, 48, 49, 50], [(6, none, .frz (.st (.pair .str (.pair (.int .i64) (.pair .str .unit)))))])], [.int .i64], false, false, false, [], false⟩
/-- loop.example/g00172/impl.codeIf -/
noncomputable def fi79 : FI := ⟨Go.Proofs.Tryz.f79, [], [.int .i64], false, false, false, [], false⟩
/-- loop.example/g00172/impl.hasBlobs -/
noncomputable def fi80 : FI := ⟨Go.Proofs.Tryz.f80, [(1, [1, 2], [(2, none, .frz (.sl (.st (.pair .str (.pair (.int .i64) (.pair .str .unit))))))])], [.bool], false, false, false, [], false⟩
/-- loop.example/g00172/impl.mergePath -/
noncomputable def fi81 : FI := ⟨Go.Proofs.Tryz.f81, [], [(.st (.pair (.int .i64) (.pair (.sl (.st (.pair .str (.pair (.int .i64) (.pair .str .unit))))) (.pair (.sl (.st (.pair .str (.pair (.int .i64) (.pair (.int .i64) (.pair .str .unit)))))) (.pair (.sl (.st (.pair .str (.pair .str .unit)))) .unit)))))], true, false, false, [], false⟩
/-- loop.example/g00172/laws.heldEntryS -/
noncomputable def fi82 : FI := ⟨Go.Proofs.Tryz.f82, [(2, [0, 1, 5], [])], [.int .i64], false, false, false, [], false⟩
/-- loop.example/g00172/laws.heldWorkS -/
noncomputable def fi83 : FI := ⟨Go.Proofs.Tryz.f83, [(2, [0, 1, 5], [])], [.int .i64], false, false, false, [], false⟩
/-- loop.example/g00172/laws.szRule -/
noncomputable def fi84 : FI := ⟨Go.Proofs.Tryz.f84, [], [.int .i64], false, false, false, [], false⟩
/-- loop.example/g00172/spec.RulesFault -/
noncomputable def fi85 : FI := ⟨Go.Proofs.Tryz.f85, [(4, [0, 3], [])], [.int .i64], false, false, false, [], false⟩
/-- loop.example/g00172/spec.l10Clashes -/
noncomputable def fi86 : FI := ⟨Go.Proofs.Tryz.f86, [(3, [0, 3, 4], [(3, none, .give .str)])], [(.sl .str)], false, false, false, [], false⟩
/-- loop.example/g00172/spec.l13Find -/
noncomputable def fi87 : FI := ⟨Go.Proofs.Tryz.f87, [(2, [0, 1, 5], [])], [.int .i64], false, false, false, [], false⟩
/-- loop.example/g00172/spec.l13Stage -/
noncomputable def fi88 : FI := ⟨Go.Proofs.Tryz.f88, [], [(.st (.pair .str (.pair (.int .i64) (.pair .str .unit))))], false, false, false, [], false⟩
/-- loop.example/g00172/spec.l5Put -/
noncomputable def fi89 : FI := ⟨Go.Proofs.Tryz.f89, [(10, [0, 1, 2, 9, 11], [])], [(.sl (.st (.pair .str (.pair (.int .i64) (.pair .str .unit))))), .str, .int .i64], false, false, false, [], false⟩
/-- loop.example/g00172/spec.l10Resolve -/
noncomputable def fi90 : FI := ⟨Go.Proofs.Tryz.f90, [(3, [0, 1, 2, 3, 9, 10], [])], [(.sl (.st (.pair .str (.pair (.int .i64) (.pair (.int .i64) (.pair .str .unit))))))], false, false, false, [], false⟩
/-- loop.example/g00172/laws.toRule -/
noncomputable def fi91 : FI := ⟨Go.Proofs.Tryz.f91, [], [(.st (.pair .str (.pair .str .unit)))], false, false, false, [], false⟩
/-- loop.example/g00172/impl.RulesFault -/
noncomputable def fi92 : FI := ⟨Go.Proofs.Tryz.f92, [(4, [0, 9, 10, 11], [])], [.int .i64], false, false, false, [], false⟩
/-- loop.example/g00172/impl.replay -/
noncomputable def fi93 : FI := ⟨Go.Proofs.Tryz.f93, [(3, [0, 1, 2, 6, 7, 21, 22, 23], [])], [(.st (.pair (.int .i64) (.pair (.int .i64) (.pair (.sl (.st (.pair .str (.pair (.int .i64) (.pair .str .unit))))) (.pair (.sl (.st (.pair .str (.pair (.int .i64) (.pair (.int .i64) (.pair .str .unit)))))) .unit)))))], true, false, false, [], false⟩
/-- loop.example/g00172/laws.eqRule -/
noncomputable def fi94 : FI := ⟨Go.Proofs.Tryz.f94, [], [.bool], false, false, false, [], false⟩
/-- loop.example/g00172/spec.l11Trees -/
noncomputable def fi95 : FI := ⟨Go.Proofs.Tryz.f95, [(5, [1, 2, 3, 8, 9, 11, 12], []), (17, [8, 9, 15], []), (20, [8, 9, 15, 16], [])], [(.st (.pair (.int .i64) (.pair (.sl (.st (.pair .str (.pair (.int .i64) (.pair .str .unit))))) (.pair (.sl (.st (.pair .str (.pair (.int .i64) (.pair (.int .i64) (.pair .str .unit)))))) (.pair (.sl (.st (.pair .str (.pair .str .unit)))) .unit)))))], false, false, false, [], false⟩
/-- loop.example/g00172/impl.mergeTrees -/
noncomputable def fi96 : FI := ⟨Go.Proofs.Tryz.f96, [(5, [1, 2, 3, 8, 9, 39, 40, 41], []), (17, [8, 9, 83, 84, 85], []), (19, [8, 9, 14, 83, 84, 85], [(14, none, .frz (.st (.pair .str (.pair (.int .i64) (.pair (.int .i64) (.pair .str .unit))))))])], [(.st (.pair (.int .i64) (.pair (.sl (.st (.pair .str (.pair (.int .i64) (.pair .str .unit))))) (.pair (.sl (.st (.pair .str (.pair (.int .i64) (.pair (.int .i64) (.pair .str .unit)))))) (.pair (.sl (.st (.pair .str (.pair .str .unit)))) .unit)))))], true, false, false, [], false⟩
/-- loop.example/g00172/laws.eqFile -/
noncomputable def fi97 : FI := ⟨Go.Proofs.Tryz.f97, [], [.bool], false, false, false, [], false⟩
/-- loop.example/g00172/spec.IdOf -/
noncomputable def fi98 : FI := ⟨Go.Proofs.Tryz.f98, [], [(.st (.pair (.int .i64) (.pair .str .unit)))], false, false, false, [], false⟩
/-- loop.example/g00172/spec.PathFault -/
noncomputable def fi99 : FI := ⟨Go.Proofs.Tryz.f99, [(5, [3, 4], [])], [.int .i64], false, false, false, [], false⟩
/-- loop.example/g00172/spec.l1In -/
noncomputable def fi100 : FI := ⟨Go.Proofs.Tryz.f100, [], [.bool], false, false, false, [], false⟩
/-- loop.example/g00172/spec.l10Mode -/
noncomputable def fi101 : FI := ⟨Go.Proofs.Tryz.f101, [], [.bool], false, false, false, [], false⟩
/-- loop.example/g00172/spec.l6Is -/
noncomputable def fi102 : FI := ⟨Go.Proofs.Tryz.f102, [], [.bool], false, false, false, [], false⟩
/-- loop.example/g00172/spec.l10Behind -/
noncomputable def fi103 : FI := ⟨Go.Proofs.Tryz.f103, [], [.bool], false, false, false, [], false⟩
/-- loop.example/g00172/spec.l11Text -/
noncomputable def fi104 : FI := ⟨Go.Proofs.Tryz.f104, [], [.str], false, false, false, [], false⟩
/-- loop.example/g00172/spec.IsBinary -/
noncomputable def fi105 : FI := ⟨Go.Proofs.Tryz.f105, [(2, [0, 3], [])], [.bool], false, false, false, [], false⟩
/-- loop.example/g00172/spec.NormalText -/
noncomputable def fi106 : FI := ⟨Go.Proofs.Tryz.f106, [], [(.st (.pair (.int .i64) (.pair .str .unit)))], false, false, false, [], false⟩
/-- loop.example/g00172/impl.dataCode -/
noncomputable def fi107 : FI := ⟨Go.Proofs.Tryz.f107, [], [.int .i64], false, false, false, [], false⟩
/-- loop.example/g00172/impl.idOf -/
noncomputable def fi108 : FI := ⟨Go.Proofs.Tryz.f108, [], [.str], false, false, false, [], false⟩
/-- loop.example/g00172/impl.PathFault -/
noncomputable def fi109 : FI := ⟨Go.Proofs.Tryz.f109, [], [.int .i64], false, false, false, [], false⟩
/-- loop.example/g00172/impl.within -/
noncomputable def fi110 : FI := ⟨Go.Proofs.Tryz.f110, [], [.bool], false, false, false, [], false⟩
/-- loop.example/g00172/impl.isFileMode -/
noncomputable def fi111 : FI := ⟨Go.Proofs.Tryz.f111, [], [.bool], false, false, false, [], false⟩
/-- loop.example/g00172/impl.isIdOf -/
noncomputable def fi112 : FI := ⟨Go.Proofs.Tryz.f112, [], [.bool], false, false, false, [], false⟩
/-- loop.example/g00172/impl.compareEntries -/
noncomputable def fi113 : FI := ⟨Go.Proofs.Tryz.f113, [], [.int .i64], false, false, false, [], false⟩
/-- loop.example/g00172/impl.get -/
noncomputable def fi114 : FI := ⟨Go.Proofs.Tryz.f114, [], [.str, .bool], false, false, false, [], false⟩
/-- loop.example/g00172/impl.IsBinary -/
noncomputable def fi115 : FI := ⟨Go.Proofs.Tryz.f115, [], [.bool], false, false, false, [], false⟩
/-- loop.example/g00172/impl.NormalText -/
noncomputable def fi116 : FI := ⟨Go.Proofs.Tryz.f116, [(6, [6, 8, 9, 34, 35, 36], [])], [(.st (.pair (.int .i64) (.pair .str .unit)))], false, false, false, [], false⟩
/-- loop.example/g00172/spec.l10Stage -/
noncomputable def fi117 : FI := ⟨Go.Proofs.Tryz.f117, [(3, [0, 1, 5, 6], [])], [(.sl (.st (.pair .str (.pair (.int .i64) (.pair .str .unit)))))], true, false, false, [], false⟩
/-- loop.example/g00172/spec.WorkText -/
noncomputable def fi118 : FI := ⟨Go.Proofs.Tryz.f118, [(2, [0, 1, 4, 5], [])], [(.st (.pair (.int .i64) (.pair .str .unit)))], false, false, false, [], false⟩
/-- loop.example/g00172/spec.TextFault -/
noncomputable def fi119 : FI := ⟨Go.Proofs.Tryz.f119, [], [.int .i64], false, false, false, [], false⟩
/-- loop.example/g00172/spec.l7Sort -/
noncomputable def fi120 : FI := ⟨Go.Proofs.Tryz.f120, [(3, [0, 3, 4], []), (6, [0, 3, 4, 5], [])], [(.sl (.st (.pair .str (.pair (.int .i64) (.pair .str .unit)))))], false, false, false, [], false⟩
/-- loop.example/g00172/impl.stageFiles -/
noncomputable def fi121 : FI := ⟨Go.Proofs.Tryz.f121, [(3, [1, 5, 9, 10, 11], [])], [(.sl (.st (.pair .str (.pair (.int .i64) (.pair .str .unit)))))], true, false, false, [], false⟩
/-- loop.example/g00172/impl.WorkText -/
noncomputable def fi122 : FI := ⟨Go.Proofs.Tryz.f122, [(2, [1, 4, 7, 8, 9], [])], [(.st (.pair (.int .i64) (.pair .str .unit)))], false, false, false, [], false⟩
/-- loop.example/g00172/impl.TextFault -/
noncomputable def fi123 : FI := ⟨Go.Proofs.Tryz.f123, [], [.int .i64], false, false, false, [], false⟩
/-- loop.example/g00172/impl.put -/
noncomputable def fi124 : FI := ⟨Go.Proofs.Tryz.f124, [], [(.st (.pair (.int .i64) (.pair .str (.pair (.sl (.st (.pair .str (.pair (.int .i64) (.pair .str .unit))))) .unit))))], true, false, false, [], false⟩
/-- loop.example/g00172/impl.withFile -/
noncomputable def fi125 : FI := ⟨Go.Proofs.Tryz.f125, [(1, [0, 4, 5], [(4, none, .frz .str)])], [(.sl (.st (.pair .str (.pair (.int .i64) (.pair .str .unit)))))], true, false, false, [], false⟩
/-- slices.Clone[[]loop.example/g00172/impl.Object,loop.example/g00172/impl.Object] -/
noncomputable def fi126 : FI := ⟨Go.Proofs.Tryz.f126, [], [(.sl (.st (.pair .str (.pair (.int .i64) (.pair .str .unit)))))], true, false, false, [], false⟩
/-- loop.example/g00172/spec.InDir -/
noncomputable def fi127 : FI := ⟨Go.Proofs.Tryz.f127, [], [.bool], false, false, false, [], false⟩
/-- loop.example/g00172/spec.l5Get -/
noncomputable def fi128 : FI := ⟨Go.Proofs.Tryz.f128, [], [.str, .bool], false, false, false, [], false⟩
/-- loop.example/g00172/spec.MergeKind -/
noncomputable def fi129 : FI := ⟨Go.Proofs.Tryz.f129, [], [.int .i64], false, false, false, [], false⟩
/-- loop.example/g00172/spec.l11Both -/
noncomputable def fi130 : FI := ⟨Go.Proofs.Tryz.f130, [], [(.st (.pair (.int .i64) (.pair (.sl (.st (.pair .str (.pair (.int .i64) (.pair .str .unit))))) (.pair (.sl (.st (.pair .str (.pair (.int .i64) (.pair (.int .i64) (.pair .str .unit)))))) (.pair (.sl (.st (.pair .str (.pair .str .unit)))) .unit)))))], false, false, false, [], false⟩
/-- loop.example/g00172/spec.l11Stages -/
noncomputable def fi131 : FI := ⟨Go.Proofs.Tryz.f131, [(4, [7, 8, 9], [])], [(.sl (.st (.pair .str (.pair (.int .i64) (.pair (.int .i64) (.pair .str .unit))))))], false, false, false, [], false⟩
/-- slices.ContainsFunc[[]loop.example/g00172/impl.File,loop.example/g00172/impl.File] -/
noncomputable def fi132 : FI := ⟨Go.Proofs.Tryz.f132, [], [.bool], false, false, false, [], false⟩
/-- loop.example/g00172/impl.FilesFault$1 -/
noncomputable def fi133 : FI := ⟨Go.Proofs.Tryz.f133, [], [.bool], false, true, false, [], false⟩
/-- loop.example/g00172/impl.InDir -/
noncomputable def fi134 : FI := ⟨Go.Proofs.Tryz.f134, [], [.bool], false, false, false, [], false⟩
/-- loop.example/g00172/impl.hasBlobs$1 -/
noncomputable def fi135 : FI := ⟨Go.Proofs.Tryz.f135, [], [.bool], false, true, false, [], false⟩
/-- loop.example/g00172/impl.MergeKind -/
noncomputable def fi136 : FI := ⟨Go.Proofs.Tryz.f136, [], [.int .i64], false, false, false, [], false⟩
/-- loop.example/g00172/impl.settled -/
noncomputable def fi137 : FI := ⟨Go.Proofs.Tryz.f137, [], [(.st (.pair (.int .i64) (.pair (.sl (.st (.pair .str (.pair (.int .i64) (.pair .str .unit))))) (.pair (.sl (.st (.pair .str (.pair (.int .i64) (.pair (.int .i64) (.pair .str .unit)))))) (.pair (.sl (.st (.pair .str (.pair .str .unit)))) .unit)))))], true, false, false, [], false⟩
/-- loop.example/g00172/impl.mergeBoth -/
noncomputable def fi138 : FI := ⟨Go.Proofs.Tryz.f138, [], [(.st (.pair (.int .i64) (.pair (.sl (.st (.pair .str (.pair (.int .i64) (.pair .str .unit))))) (.pair (.sl (.st (.pair .str (.pair (.int .i64) (.pair (.int .i64) (.pair .str .unit)))))) (.pair (.sl (.st (.pair .str (.pair .str .unit)))) .unit)))))], true, false, false, [], false⟩
/-- loop.example/g00172/impl.clash -/
noncomputable def fi139 : FI := ⟨Go.Proofs.Tryz.f139, [(3, [2, 6, 7, 13, 14], [])], [(.st (.pair (.int .i64) (.pair (.sl (.st (.pair .str (.pair (.int .i64) (.pair .str .unit))))) (.pair (.sl (.st (.pair .str (.pair (.int .i64) (.pair (.int .i64) (.pair .str .unit)))))) (.pair (.sl (.st (.pair .str (.pair .str .unit)))) .unit)))))], true, false, false, [], false⟩
/-- loop.example/g00172/impl.blobOf -/
noncomputable def fi140 : FI := ⟨Go.Proofs.Tryz.f140, [], [.str], false, false, false, [], false⟩
/-- loop.example/g00172/spec.l13Pre -/
noncomputable def fi141 : FI := ⟨Go.Proofs.Tryz.f141, [], [.bool], false, false, false, [], false⟩
/-- loop.example/g00172/spec.l9Put -/
noncomputable def fi142 : FI := ⟨Go.Proofs.Tryz.f142, [(2, [0, 1, 5], [])], [(.sl .str)], false, false, false, [], false⟩
/-- loop.example/g00172/spec.l7Find -/
noncomputable def fi143 : FI := ⟨Go.Proofs.Tryz.f143, [(2, [0, 1, 4, 5], [])], [(.st (.pair .str (.pair (.int .i64) (.pair .str .unit))))], false, false, false, [], false⟩
/-- loop.example/g00172/spec.l5Id -/
noncomputable def fi144 : FI := ⟨Go.Proofs.Tryz.f144, [(4, [0, 5, 6, 7], [])], [.str], false, false, false, [], false⟩
/-- loop.example/g00172/spec.l5Find -/
noncomputable def fi145 : FI := ⟨Go.Proofs.Tryz.f145, [(2, [0, 1, 5], [])], [.int .i64], false, false, false, [], false⟩
/-- loop.example/g00172/spec.l10Put -/
noncomputable def fi146 : FI := ⟨Go.Proofs.Tryz.f146, [(2, [0, 3, 5], [(3, none, .frz T_Entry)])], [(.sl (.st (.pair .str (.pair (.int .i64) (.pair (.int .i64) (.pair .str .unit))))))], true, false, false, [], false⟩
/-- loop.example/g00172/impl.isPre -/
noncomputable def fi147 : FI := ⟨Go.Proofs.Tryz.f147, [], [.bool], false, false, false, [], false⟩
/-- slices.Clone[[]loop.example/g00172/impl.Entry,loop.example/g00172/impl.Entry] -/
noncomputable def fi148 : FI := ⟨Go.Proofs.Tryz.f148, [], [(.sl (.st (.pair .str (.pair (.int .i64) (.pair (.int .i64) (.pair .str .unit))))))], true, false, false, [], false⟩
/-- loop.example/g00172/impl.clashesIn -/
noncomputable def fi149 : FI := ⟨Go.Proofs.Tryz.f149, [(3, [3, 7, 8, 9], [])], [(.sl .str)], true, false, false, [], false⟩
/-- loop.example/g00172/impl.modeIn -/
noncomputable def fi150 : FI := ⟨Go.Proofs.Tryz.f150, [(1, [0, 4, 5], [(4, none, .frz .str), (5, none, .frz (.int .i64))])], [.int .i64], false, false, false, [], false⟩
/-- loop.example/g00172/impl.ruleAt -/
noncomputable def fi151 : FI := ⟨Go.Proofs.Tryz.f151, [], [.int .i64, .bool], false, false, false, [], false⟩
/-- loop.example/g00172/impl.resolve -/
noncomputable def fi152 : FI := ⟨Go.Proofs.Tryz.f152, [(1, [0, 2, 3, 5], [(5, none, .frz .str)])], [(.sl (.st (.pair .str (.pair (.int .i64) (.pair (.int .i64) (.pair .str .unit))))))], true, false, false, [], false⟩
/-- loop.example/g00172/spec.l7Paths -/
noncomputable def fi153 : FI := ⟨Go.Proofs.Tryz.f153, [(4, [5, 6, 7], [])], [(.sl .str)], false, false, false, [], false⟩
/-- loop.example/g00172/impl.pathsOf -/
noncomputable def fi154 : FI := ⟨Go.Proofs.Tryz.f154, [(3, [3, 9, 10, 11], []), (6, [3, 9, 10, 11, 15, 16, 17], [])], [(.sl .str)], true, false, false, [], false⟩
/-- loop.example/g00172/impl.fileAt -/
noncomputable def fi155 : FI := ⟨Go.Proofs.Tryz.f155, [(1, [0, 3, 4], [(3, none, .frz .str)])], [(.st (.pair .str (.pair (.int .i64) (.pair .str .unit))))], false, false, false, [], false⟩
/-- slices.ContainsFunc[[]loop.example/g00172/impl.Entry,loop.example/g00172/impl.Entry] -/
noncomputable def fi156 : FI := ⟨Go.Proofs.Tryz.f156, [], [.bool], false, false, false, [], false⟩
/-- loop.example/g00172/impl.mergeTrees$1 -/
noncomputable def fi157 : FI := ⟨Go.Proofs.Tryz.f157, [], [.bool], false, true, false, [], false⟩
/-- loop.example/g00172/spec.l5Kind -/
noncomputable def fi158 : FI := ⟨Go.Proofs.Tryz.f158, [], [.bool], false, false, false, [], false⟩
/-- loop.example/g00172/spec.l7Parts -/
noncomputable def fi159 : FI := ⟨Go.Proofs.Tryz.f159, [(4, [0, 3, 4, 5], [])], [(.sl .str)], false, false, false, [], false⟩
/-- loop.example/g00172/spec.NameFault -/
noncomputable def fi160 : FI := ⟨Go.Proofs.Tryz.f160, [(4, [0, 3], [])], [.int .i64], false, false, false, [], false⟩
/-- loop.example/g00172/spec.IsId -/
noncomputable def fi161 : FI := ⟨Go.Proofs.Tryz.f161, [(4, [0, 3], [])], [.bool], false, false, false, [], false⟩
/-- loop.example/g00172/spec.l5Letter -/
noncomputable def fi162 : FI := ⟨Go.Proofs.Tryz.f162, [], [.str], false, false, false, [], false⟩
/-- loop.example/g00172/spec.l4Texts -/
noncomputable def fi163 : FI := ⟨Go.Proofs.Tryz.f163, [], [.int .i64], false, false, false, [], false⟩
/-- loop.example/g00172/spec.l13Normal -/
noncomputable def fi164 : FI := ⟨Go.Proofs.Tryz.f164, [(5, [8, 9, 10, 11], [])], [.str, .bool], false, false, false, [], false⟩
/-- loop.example/g00172/impl.isKind -/
noncomputable def fi165 : FI := ⟨Go.Proofs.Tryz.f165, [], [.bool], false, false, false, [], false⟩
/-- loop.example/g00172/impl.DigestOf -/
noncomputable def fi167 : FI := ⟨Go.Proofs.Tryz.f167, [(3, [0, 3, 6, 7], [])], [.int .i64], false, false, false, [], false⟩
/-- strings.Split -/
noncomputable def fi169 : FI := ⟨Go.Proofs.Tryz.f169, [], [(.sl .str)], false, false, false, [], false⟩
/-- slices.ContainsFunc[[]string,string] -/
noncomputable def fi170 : FI := ⟨Go.Proofs.Tryz.f170, [], [.bool], false, false, false, [], false⟩
/-- loop.example/g00172/impl.PathFault$1 -/
noncomputable def fi171 : FI := ⟨Go.Proofs.Tryz.f171, [], [.bool], false, false, false, [], false⟩
/-- loop.example/g00172/impl.NameFault -/
noncomputable def fi172 : FI := ⟨Go.Proofs.Tryz.f172, [(4, [0, 22, 23], [])], [.int .i64], false, false, false, [], false⟩
/-- loop.example/g00172/impl.IsId -/
noncomputable def fi173 : FI := ⟨Go.Proofs.Tryz.f173, [], [.bool], false, false, false, [], false⟩
/-- cmp.Or[int] -/
noncomputable def fi174 : FI := ⟨Go.Proofs.Tryz.f174, [(3, [3, 6, 7, 8], [])], [.int .i64], false, false, false, [], false⟩
/-- strings.Compare -/
noncomputable def fi175 : FI := ⟨Go.Proofs.Tryz.f175, [], [.int .i64], false, false, false, [], false⟩
/-- cmp.Compare[int64] -/
noncomputable def fi176 : FI := ⟨Go.Proofs.Tryz.f176, [], [.int .i64], false, false, false, [], false⟩
/-- loop.example/g00172/impl.find -/
noncomputable def fi177 : FI := ⟨Go.Proofs.Tryz.f177, [], [.int .i64, .bool], false, false, false, [], false⟩
/-- strings.IndexByte -/
noncomputable def fi178 : FI := ⟨Go.Proofs.Tryz.f178, [], [.int .i64], false, false, false, [], false⟩
/-- loop.example/g00172/impl.chunksOf -/
noncomputable def fi179 : FI := ⟨Go.Proofs.Tryz.f179, [(7, [0, 1, 2, 7, 8, 9, 10, 11, 12, 13, 14], [(9, some 0, .whole T_Chunk)]), (12, [0, 1, 2, 7, 8, 9, 10, 11, 12, 13, 14], [(9, some 0, .whole T_Chunk)])], [(.sl (.st (.pair (.int .i64) (.pair (.sl .str) (.pair (.sl .str) (.pair (.sl .str) .unit))))))], false, false, false, [], false⟩
/-- loop.example/g00172/impl.linesOf -/
noncomputable def fi180 : FI := ⟨Go.Proofs.Tryz.f180, [], [(.sl .str)], false, false, false, [], false⟩
/-- (*strings.Builder).WriteString -/
noncomputable def fi182 : FI := ⟨Go.Proofs.Tryz.f182, [], [.int .i64, .unit], false, true, false, [], false⟩
/-- loop.example/g00172/impl.size -/
noncomputable def fi183 : FI := ⟨Go.Proofs.Tryz.f183, [], [.str], false, false, false, [], false⟩
/-- (*strings.Builder).String -/
noncomputable def fi184 : FI := ⟨Go.Proofs.Tryz.f184, [], [.str], false, true, false, [], false⟩
/-- loop.example/g00172/spec.l1Split -/
noncomputable def fi185 : FI := ⟨Go.Proofs.Tryz.f185, [(4, [0, 3, 4, 5], [])], [(.sl .str)], false, false, false, [], false⟩
/-- slices.DeleteFunc[[]loop.example/g00172/impl.File,loop.example/g00172/impl.File] -/
noncomputable def fi187 : FI := ⟨Go.Proofs.Tryz.f187, [(5, [0, 1, 5, 6], [])], [(.sl (.st (.pair .str (.pair (.int .i64) (.pair .str .unit)))))], true, false, true, [], false⟩
/-- slices.Clone[[]loop.example/g00172/impl.File,loop.example/g00172/impl.File] -/
noncomputable def fi188 : FI := ⟨Go.Proofs.Tryz.f188, [], [(.sl (.st (.pair .str (.pair (.int .i64) (.pair .str .unit)))))], true, false, false, [], false⟩
/-- loop.example/g00172/impl.withFile$1 -/
noncomputable def fi189 : FI := ⟨Go.Proofs.Tryz.f189, [], [.bool], false, true, false, [], false⟩
/-- slices.BinarySearchFunc[[]loop.example/g00172/impl.File,loop.example/g00172/impl.File,string] -/
noncomputable def fi190 : FI := ⟨Go.Proofs.Tryz.f190, [(3, [0, 1, 2, 8, 9, 10], [])], [.int .i64, .bool], false, false, false, [], false⟩
/-- loop.example/g00172/impl.withFile$2 -/
noncomputable def fi191 : FI := ⟨Go.Proofs.Tryz.f191, [], [.int .i64], false, false, false, [], false⟩
/-- loop.example/g00172/spec.l11Mode -/
noncomputable def fi193 : FI := ⟨Go.Proofs.Tryz.f193, [], [.int .i64, .bool], false, false, false, [], false⟩
/-- loop.example/g00172/spec.l11Pick -/
noncomputable def fi194 : FI := ⟨Go.Proofs.Tryz.f194, [], [.str], false, false, false, [], false⟩
/-- loop.example/g00172/spec.MergeTexts -/
noncomputable def fi195 : FI := ⟨Go.Proofs.Tryz.f195, [], [(.st (.pair (.int .i64) (.pair (.int .i64) (.pair .str .unit))))], false, false, false, [], false⟩
/-- slices.IndexFunc[[]loop.example/g00172/impl.File,loop.example/g00172/impl.File] -/
noncomputable def fi196 : FI := ⟨Go.Proofs.Tryz.f196, [(2, [0, 1, 7, 8], [])], [.int .i64], false, false, false, [], false⟩
/-- strings.HasPrefix -/
noncomputable def fi197 : FI := ⟨Go.Proofs.Tryz.f197, [], [.bool], false, false, false, [], false⟩
/-- loop.example/g00172/impl.mergeTexts -/
noncomputable def fi198 : FI := ⟨Go.Proofs.Tryz.f198, [(3, [6, 7, 8, 20, 21, 22], [])], [(.st (.pair (.int .i64) (.pair (.int .i64) (.pair .str .unit))))], false, false, false, [], false⟩
/-- loop.example/g00172/spec.DigestOf -/
noncomputable def fi199 : FI := ⟨Go.Proofs.Tryz.f199, [(3, [0, 3, 4], [])], [.int .i64], false, false, false, [], false⟩
/-- slices.Compact[[]string,string] -/
noncomputable def fi200 : FI := ⟨Go.Proofs.Tryz.f200, [(4, [0, 3], []), (9, [0, 3, 4, 5], [])], [(.sl .str)], true, false, true, [], false⟩
/-- slices.IndexFunc[[]loop.example/g00172/impl.Entry,loop.example/g00172/impl.Entry] -/
noncomputable def fi201 : FI := ⟨Go.Proofs.Tryz.f201, [(2, [0, 1, 7, 8], [])], [.int .i64], false, false, false, [], false⟩
/-- loop.example/g00172/impl.modeIn$1 -/
noncomputable def fi202 : FI := ⟨Go.Proofs.Tryz.f202, [], [.bool], false, true, false, [], false⟩
/-- slices.BinarySearchFunc[[]loop.example/g00172/impl.Rule,loop.example/g00172/impl.Rule,string] -/
noncomputable def fi203 : FI := ⟨Go.Proofs.Tryz.f203, [(3, [0, 1, 2, 8, 9, 10], [])], [.int .i64, .bool], false, false, false, [], false⟩
/-- loop.example/g00172/impl.ruleAt$1 -/
noncomputable def fi204 : FI := ⟨Go.Proofs.Tryz.f204, [], [.int .i64], false, false, false, [], false⟩
/-- slices.DeleteFunc[[]loop.example/g00172/impl.Entry,loop.example/g00172/impl.Entry] -/
noncomputable def fi205 : FI := ⟨Go.Proofs.Tryz.f205, [(5, [0, 1, 5, 6], [])], [(.sl (.st (.pair .str (.pair (.int .i64) (.pair (.int .i64) (.pair .str .unit))))))], true, false, true, [], false⟩
/-- loop.example/g00172/impl.resolve$1 -/
noncomputable def fi206 : FI := ⟨Go.Proofs.Tryz.f206, [], [.bool], false, true, false, [], false⟩
/-- slices.BinarySearchFunc[[]loop.example/g00172/impl.Entry,loop.example/g00172/impl.Entry,loop.example/g00172/impl.Entry] -/
noncomputable def fi207 : FI := ⟨Go.Proofs.Tryz.f207, [(3, [0, 2, 4, 8, 9, 10], [])], [.int .i64, .bool], false, false, false, [], false⟩
/-- slices.Sort[[]string,string] -/
noncomputable def fi209 : FI := ⟨Go.Proofs.Tryz.f209, [], [], false, false, false, [], false⟩
/-- loop.example/g00172/impl.fileAt$1 -/
noncomputable def fi210 : FI := ⟨Go.Proofs.Tryz.f210, [], [.bool], false, true, false, [], false⟩
/-- loop.example/g00172/spec.l6NameByte -/
noncomputable def fi211 : FI := ⟨Go.Proofs.Tryz.f211, [], [.bool], false, false, false, [], false⟩
/-- loop.example/g00172/spec.l4Chunks -/
noncomputable def fi212 : FI := ⟨Go.Proofs.Tryz.f212, [(8, [0, 1, 2, 7, 8, 9, 10, 11, 12, 13], []), (9, [0, 1, 2, 7, 8, 9, 10, 11, 12, 13, 14], []), (16, [0, 1, 2, 7, 8, 9, 10, 11, 12, 13, 15], [])], [(.sl (.st (.pair (.int .i64) (.pair (.sl .str) (.pair (.sl .str) (.pair (.sl .str) .unit))))))], false, false, false, [], false⟩
/-- loop.example/g00172/spec.l1Join -/
noncomputable def fi213 : FI := ⟨Go.Proofs.Tryz.f213, [(3, [0, 3, 4], [])], [.str], false, false, false, [], false⟩
/-- loop.example/g00172/spec.l13Number -/
noncomputable def fi214 : FI := ⟨Go.Proofs.Tryz.f214, [], [.str], false, false, false, [], false⟩
/-- internal/strconv.FormatInt -/
noncomputable def fi215 : FI := ⟨Go.Proofs.Tryz.f215, [], [.str], false, false, false, [], false⟩
/-- math/bits.Mul -/
noncomputable def fi216 : FI := ⟨Go.Proofs.Tryz.f216, [], [.int .u64, .int .u64], false, false, false, [], false⟩
/-- (*strings.Builder).Grow -/
noncomputable def fi217 : FI := ⟨Go.Proofs.Tryz.f217, [], [], false, false, false, [], false⟩
/-- (*strings.Builder).Len -/
noncomputable def fi218 : FI := ⟨Go.Proofs.Tryz.f218, [], [.int .i64], false, false, false, [], false⟩
/-- strings.genSplit -/
noncomputable def fi219 : FI := ⟨Go.Proofs.Tryz.f219, [(11, [0, 1, 2, 3, 9, 10], [])], [(.sl .str)], false, false, false, [], false⟩
/-- slices.IndexFunc[[]string,string] -/
noncomputable def fi220 : FI := ⟨Go.Proofs.Tryz.f220, [(2, [0, 1, 7, 8], [])], [.int .i64], false, false, false, [], false⟩
/-- internal/bytealg.CompareString -/
noncomputable def fi222 : FI := ⟨Go.Proofs.Tryz.f222, [], [.int .i64], false, false, false, [], false⟩
/-- cmp.isNaN[int64] -/
noncomputable def fi223 : FI := ⟨Go.Proofs.Tryz.f223, [], [.bool], false, false, false, [], false⟩
/-- slices.BinarySearchFunc[[]loop.example/g00172/impl.Object,loop.example/g00172/impl.Object,string] -/
noncomputable def fi224 : FI := ⟨Go.Proofs.Tryz.f224, [(3, [0, 1, 2, 8, 9, 10], [])], [.int .i64, .bool], false, false, false, [], false⟩
/-- loop.example/g00172/impl.find$1 -/
noncomputable def fi225 : FI := ⟨Go.Proofs.Tryz.f225, [], [.int .i64], false, false, false, [], false⟩
/-- internal/stringslite.IndexByte -/
noncomputable def fi226 : FI := ⟨Go.Proofs.Tryz.f226, [], [.int .i64], false, false, false, [], false⟩
/-- loop.example/g00172/impl.places -/
noncomputable def fi227 : FI := ⟨Go.Proofs.Tryz.f227, [(3, [0, 1, 5, 12, 13], []), (8, [5, 7, 25, 26, 27], [])], [(.sl (.int .i64))], true, false, false, [], false⟩
/-- loop.example/g00172/impl.chunksOf$1 -/
noncomputable def fi228 : FI := ⟨Go.Proofs.Tryz.f228, [], [], false, true, false, [], false⟩
/-- loop.example/g00172/impl.chunkOf -/
noncomputable def fi229 : FI := ⟨Go.Proofs.Tryz.f229, [], [(.st (.pair (.int .i64) (.pair (.sl .str) (.pair (.sl .str) (.pair (.sl .str) .unit)))))], false, false, false, [], false⟩
/-- strings.SplitAfter -/
noncomputable def fi230 : FI := ⟨Go.Proofs.Tryz.f230, [], [(.sl .str)], false, false, false, [], false⟩
/-- loop.example/g00172/impl.decimal -/
noncomputable def fi232 : FI := ⟨Go.Proofs.Tryz.f232, [], [.str], false, false, false, [], false⟩
/-- slices.rotateRight[loop.example/g00172/impl.Object] -/
noncomputable def fi234 : FI := ⟨Go.Proofs.Tryz.f234, [], [], false, false, false, [], false⟩
/-- slices.rotateRight[loop.example/g00172/impl.File] -/
noncomputable def fi236 : FI := ⟨Go.Proofs.Tryz.f236, [], [], false, false, false, [], false⟩
/-- loop.example/g00172/spec.l4Merge -/
noncomputable def fi237 : FI := ⟨Go.Proofs.Tryz.f237, [(4, [0, 4, 5, 6], []), (16, [4, 5, 8, 9], [])], [.str, .int .i64], false, false, false, [], false⟩
/-- internal/stringslite.HasPrefix -/
noncomputable def fi238 : FI := ⟨Go.Proofs.Tryz.f238, [], [.bool], false, false, false, [], false⟩
/-- loop.example/g00172/impl.clashText -/
noncomputable def fi239 : FI := ⟨Go.Proofs.Tryz.f239, [], [.str], false, false, false, [], false⟩
/-- loop.example/g00172/impl.wholeLines -/
noncomputable def fi240 : FI := ⟨Go.Proofs.Tryz.f240, [(3, [3, 7, 8, 9], [])], [.str], false, false, false, [], false⟩
/-- slices.rotateRight[loop.example/g00172/impl.Entry] -/
noncomputable def fi242 : FI := ⟨Go.Proofs.Tryz.f242, [], [], false, false, false, [], false⟩
/-- slices.pdqsortOrdered[string] -/
noncomputable def fi243 : FI := ⟨Go.Proofs.Tryz.f243, [(2, [0, 1, 2, 3, 8, 9], [])], [], false, false, false, [], false⟩
/-- math/bits.Len -/
noncomputable def fi244 : FI := ⟨Go.Proofs.Tryz.f244, [], [.int .i64], false, false, false, [], false⟩
/-- loop.example/g00172/spec.l4Partner -/
noncomputable def fi245 : FI := ⟨Go.Proofs.Tryz.f245, [(3, [0, 1, 5, 6], []), (8, [5, 7, 8, 9], [])], [(.sl (.int .i64))], false, false, false, [], false⟩
/-- loop.example/g00172/spec.l4Put -/
noncomputable def fi246 : FI := ⟨Go.Proofs.Tryz.f246, [], [(.sl (.st (.pair (.int .i64) (.pair (.sl .str) (.pair (.sl .str) (.pair (.sl .str) .unit))))))], true, false, true, [], false⟩
/-- loop.example/g00172/spec.l3Digits -/
noncomputable def fi247 : FI := ⟨Go.Proofs.Tryz.f247, [], [.str], false, false, false, [], false⟩
/-- internal/strconv.small -/
noncomputable def fi248 : FI := ⟨Go.Proofs.Tryz.f248, [], [.str], false, false, false, [], false⟩
/-- internal/strconv.numDigits -/
noncomputable def fi249 : FI := ⟨Go.Proofs.Tryz.f249, [], [.int .i64], false, false, false, [], false⟩
/-- internal/strconv.formatBase10 -/
noncomputable def fi250 : FI := ⟨Go.Proofs.Tryz.f250, [(1, [0, 1, 4], [])], [], false, false, false, [], false⟩
/-- internal/strconv.formatBits -/
noncomputable def fi251 : FI := ⟨Go.Proofs.Tryz.f251, [(18, [0, 1, 3, 4, 10, 11, 12, 13, 17], []), (11, [0, 1, 3, 4, 10, 11, 12, 13, 14, 15, 16], [])], [(.sl (.int .u8)), .str], false, false, false, [], false⟩
/-- math/bits.Mul32 -/
noncomputable def fi252 : FI := ⟨Go.Proofs.Tryz.f252, [], [.int .u32, .int .u32], false, false, false, [], false⟩
/-- math/bits.Mul64 -/
noncomputable def fi253 : FI := ⟨Go.Proofs.Tryz.f253, [], [.int .u64, .int .u64], false, false, false, [], false⟩
/-- (*strings.Builder).grow -/
noncomputable def fi254 : FI := ⟨Go.Proofs.Tryz.f254, [], [], false, false, false, [], false⟩
/-- strings.explode -/
noncomputable def fi255 : FI := ⟨Go.Proofs.Tryz.f255, [(6, [0, 1, 6, 7], [])], [(.sl .str)], false, false, false, [], false⟩
/-- strings.Count -/
noncomputable def fi256 : FI := ⟨Go.Proofs.Tryz.f256, [(6, [0, 1, 5], [])], [.int .i64], false, false, false, [], false⟩
/-- strings.Index -/
noncomputable def fi257 : FI := ⟨Go.Proofs.Tryz.f257, [], [.int .i64], false, false, false, [], false⟩
/-- strings.trimLeftByte -/
noncomputable def fi258 : FI := ⟨Go.Proofs.Tryz.f258, [(1, [0, 1], [])], [.str], false, false, false, [], false⟩
/-- strings.trimRightByte -/
noncomputable def fi259 : FI := ⟨Go.Proofs.Tryz.f259, [(1, [0, 1], [])], [.str], false, false, false, [], false⟩
/-- strings.makeASCIISet -/
noncomputable def fi260 : FI := ⟨Go.Proofs.Tryz.f260, [(2, [0, 2, 4], [])], [.unit, .bool], false, false, false, [], false⟩
/-- strings.trimLeftASCII -/
noncomputable def fi261 : FI := ⟨Go.Proofs.Tryz.f261, [(1, [0, 1], [])], [.str], false, false, false, [], false⟩
/-- strings.trimRightASCII -/
noncomputable def fi262 : FI := ⟨Go.Proofs.Tryz.f262, [(1, [0, 1], [])], [.str], false, false, false, [], false⟩
/-- strings.trimLeftUnicode -/
noncomputable def fi263 : FI := ⟨Go.Proofs.Tryz.f263, [(1, [0, 1], [])], [.str], false, false, false, [], false⟩
/-- strings.trimRightUnicode -/
noncomputable def fi264 : FI := ⟨Go.Proofs.Tryz.f264, [(1, [0, 1], [])], [.str], false, false, false, [], false⟩
/-- loop.example/g00172/impl.match -/
noncomputable def fi267 : FI := ⟨Go.Proofs.Tryz.f267, [(4, [0, 1, 6, 7, 8, 9, 10], [])], [(.sl (.int .i64)), (.sl (.int .i64))], false, false, false, [], false⟩
/-- loop.example/g00172/impl.kindOf -/
noncomputable def fi268 : FI := ⟨Go.Proofs.Tryz.f268, [], [.int .i64], false, false, false, [], false⟩
/-- slices.Clone[[]string,string] -/
noncomputable def fi269 : FI := ⟨Go.Proofs.Tryz.f269, [], [(.sl .str)], true, false, false, [], false⟩
/-- slices.rotateLeft[loop.example/g00172/impl.Object] -/
noncomputable def fi271 : FI := ⟨Go.Proofs.Tryz.f271, [], [], false, false, false, [], false⟩
/-- slices.rotateLeft[loop.example/g00172/impl.File] -/
noncomputable def fi272 : FI := ⟨Go.Proofs.Tryz.f272, [], [], false, false, false, [], false⟩
/-- loop.example/g00172/spec.l4Clash -/
noncomputable def fi273 : FI := ⟨Go.Proofs.Tryz.f273, [], [.str], false, false, false, [], false⟩
/-- loop.example/g00172/impl.whole -/
noncomputable def fi274 : FI := ⟨Go.Proofs.Tryz.f274, [], [.str], false, false, false, [], false⟩
/-- slices.rotateLeft[loop.example/g00172/impl.Entry] -/
noncomputable def fi275 : FI := ⟨Go.Proofs.Tryz.f275, [], [], false, false, false, [], false⟩
/-- slices.insertionSortOrdered[string] -/
noncomputable def fi276 : FI := ⟨Go.Proofs.Tryz.f276, [(1, [0, 1, 2, 6], []), (4, [0, 1, 2, 6, 7], [])], [], false, false, false, [], false⟩
/-- slices.heapSortOrdered[string] -/
noncomputable def fi277 : FI := ⟨Go.Proofs.Tryz.f277, [(4, [0, 6, 7, 8, 9], []), (8, [0, 6, 7, 10], [])], [], false, false, false, [], false⟩
/-- slices.breakPatternsOrdered[string] -/
noncomputable def fi278 : FI := ⟨Go.Proofs.Tryz.f278, [(5, [0, 1, 6, 7, 8, 9], [])], [], false, false, false, [], false⟩
/-- slices.choosePivotOrdered[string] -/
noncomputable def fi279 : FI := ⟨Go.Proofs.Tryz.f279, [], [.int .i64, .int .i64], false, false, false, [], false⟩
/-- slices.reverseRangeOrdered[string] -/
noncomputable def fi280 : FI := ⟨Go.Proofs.Tryz.f280, [(2, [0, 6, 7], [])], [], false, false, false, [], false⟩
/-- slices.partialInsertionSortOrdered[string] -/
noncomputable def fi281 : FI := ⟨Go.Proofs.Tryz.f281, [(3, [0, 1, 2, 7, 8], []), (5, [0, 1, 2, 7, 8], []), (14, [0, 1, 2, 7, 8, 9], []), (20, [0, 1, 2, 7, 8, 10], [])], [.bool], false, false, false, [], false⟩
/-- cmp.Less[string] -/
noncomputable def fi282 : FI := ⟨Go.Proofs.Tryz.f282, [], [.bool], false, false, false, [], false⟩
/-- slices.partitionEqualOrdered[string] -/
noncomputable def fi283 : FI := ⟨Go.Proofs.Tryz.f283, [(3, [0, 1, 9, 10], []), (5, [0, 1, 9, 10], [])], [.int .i64], false, false, false, [], false⟩
/-- slices.partitionOrdered[string] -/
noncomputable def fi284 : FI := ⟨Go.Proofs.Tryz.f284, [(3, [0, 1, 10, 11], []), (5, [0, 1, 10, 11], []), (13, [0, 1, 10, 11], []), (15, [0, 1, 10, 11], [])], [.int .i64, .bool], false, false, false, [], false⟩
/-- math/bits.Len32 -/
noncomputable def fi285 : FI := ⟨Go.Proofs.Tryz.f285, [], [.int .i64], false, false, false, [], false⟩
/-- math/bits.Len64 -/
noncomputable def fi286 : FI := ⟨Go.Proofs.Tryz.f286, [], [.int .i64], false, false, false, [], false⟩
/-- loop.example/g00172/spec.l2Match -/
noncomputable def fi287 : FI := ⟨Go.Proofs.Tryz.f287, [(6, [0, 1, 6, 7, 8, 9, 10], [])], [(.sl (.int .i64)), (.sl (.int .i64))], false, false, false, [], false⟩
/-- loop.example/g00172/spec.l4Kind -/
noncomputable def fi288 : FI := ⟨Go.Proofs.Tryz.f288, [], [.int .i64], false, false, false, [], false⟩
/-- loop.example/g00172/spec.l4Copy -/
noncomputable def fi289 : FI := ⟨Go.Proofs.Tryz.f289, [], [(.sl .str)], false, false, false, [], false⟩
/-- internal/strconv.log10Pow2 -/
noncomputable def fi290 : FI := ⟨Go.Proofs.Tryz.f290, [], [.int .i64], false, false, false, [], false⟩
/-- internal/strconv.bool2[int] -/
noncomputable def fi291 : FI := ⟨Go.Proofs.Tryz.f291, [], [.int .i64], false, false, false, [], false⟩
/-- internal/strconv.isPowerOfTwo -/
noncomputable def fi292 : FI := ⟨Go.Proofs.Tryz.f292, [], [.bool], false, false, false, [], false⟩
/-- math/bits.TrailingZeros -/
noncomputable def fi293 : FI := ⟨Go.Proofs.Tryz.f293, [], [.int .i64], false, false, false, [], false⟩
/-- unicode/utf8.RuneCountInString -/
noncomputable def fi295 : FI := ⟨Go.Proofs.Tryz.f295, [(2, [2, 4], [])], [.int .i64], false, false, false, [], false⟩
/-- unicode/utf8.DecodeRuneInString -/
noncomputable def fi296 : FI := ⟨Go.Proofs.Tryz.f296, [], [.int .i32, .int .i64], false, false, false, [], false⟩
/-- internal/stringslite.Index -/
noncomputable def fi298 : FI := ⟨Go.Proofs.Tryz.f298, [(15, [0, 1, 5, 6, 7, 8, 9, 10], [])], [.int .i64], false, false, false, [], false⟩
/-- (*strings.asciiSet).contains -/
noncomputable def fi299 : FI := ⟨Go.Proofs.Tryz.f299, [], [.bool], false, false, false, [], false⟩
/-- strings.ContainsRune -/
noncomputable def fi300 : FI := ⟨Go.Proofs.Tryz.f300, [], [.bool], false, false, false, [], false⟩
/-- unicode/utf8.DecodeLastRuneInString -/
noncomputable def fi301 : FI := ⟨Go.Proofs.Tryz.f301, [(10, [0, 4, 5, 6], [])], [.int .i32, .int .i64], false, false, false, [], false⟩
/-- slices.Equal[[]string,string] -/
noncomputable def fi303 : FI := ⟨Go.Proofs.Tryz.f303, [(4, [0, 1, 12, 13], [])], [.bool], false, false, false, [], false⟩
/-- slices.Reverse[[]loop.example/g00172/impl.Object,loop.example/g00172/impl.Object] -/
noncomputable def fi304 : FI := ⟨Go.Proofs.Tryz.f304, [(1, [0, 2, 3], [])], [], false, false, false, [], false⟩
/-- slices.Reverse[[]loop.example/g00172/impl.File,loop.example/g00172/impl.File] -/
noncomputable def fi305 : FI := ⟨Go.Proofs.Tryz.f305, [(1, [0, 2, 3], [])], [], false, false, false, [], false⟩
/-- loop.example/g00172/spec.l4Ended -/
noncomputable def fi306 : FI := ⟨Go.Proofs.Tryz.f306, [(3, [0, 3, 4], [])], [.str], false, false, false, [], false⟩
/-- loop.example/g00172/impl.isWhole -/
noncomputable def fi307 : FI := ⟨Go.Proofs.Tryz.f307, [], [.bool], false, false, false, [], false⟩
/-- slices.Reverse[[]loop.example/g00172/impl.Entry,loop.example/g00172/impl.Entry] -/
noncomputable def fi308 : FI := ⟨Go.Proofs.Tryz.f308, [(1, [0, 2, 3], [])], [], false, false, false, [], false⟩
/-- slices.siftDownOrdered[string] -/
noncomputable def fi309 : FI := ⟨Go.Proofs.Tryz.f309, [(1, [0, 2, 3, 8], [])], [], false, false, false, [], false⟩
/-- slices.nextPowerOfTwo -/
noncomputable def fi310 : FI := ⟨Go.Proofs.Tryz.f310, [], [.int .u64], false, false, false, [], false⟩
/-- (*slices.xorshift).Next -/
noncomputable def fi311 : FI := ⟨Go.Proofs.Tryz.f311, [], [.int .u64], false, false, false, [], false⟩
/-- slices.medianAdjacentOrdered[string] -/
noncomputable def fi312 : FI := ⟨Go.Proofs.Tryz.f312, [], [.int .i64], false, false, true, [.var 3 [(.int .i64, false)]], true⟩
/-- slices.medianOrdered[string] -/
noncomputable def fi313 : FI := ⟨Go.Proofs.Tryz.f313, [], [.int .i64], false, false, true, [.var 3 [(.int .i64, false)]], true⟩
/-- cmp.isNaN[string] -/
noncomputable def fi314 : FI := ⟨Go.Proofs.Tryz.f314, [], [.bool], false, false, false, [], false⟩
/-- loop.example/g00172/spec.SameLines -/
noncomputable def fi316 : FI := ⟨Go.Proofs.Tryz.f316, [(4, [0, 1, 5], [])], [.bool], false, false, false, [], false⟩
/-- math/bits.TrailingZeros32 -/
noncomputable def fi317 : FI := ⟨Go.Proofs.Tryz.f317, [], [.int .i64], false, false, false, [], false⟩
/-- math/bits.TrailingZeros64 -/
noncomputable def fi318 : FI := ⟨Go.Proofs.Tryz.f318, [], [.int .i64], false, false, false, [], false⟩
/-- unicode/utf8.decodeRuneInStringSlow -/
noncomputable def fi319 : FI := ⟨Go.Proofs.Tryz.f319, [], [.int .i32, .int .i64], false, false, false, [], false⟩
/-- internal/bytealg.Cutover -/
noncomputable def fi321 : FI := ⟨Go.Proofs.Tryz.f321, [], [.int .i64], false, false, false, [], false⟩
/-- internal/bytealg.IndexRabinKarp[string] -/
noncomputable def fi322 : FI := ⟨Go.Proofs.Tryz.f322, [(5, [0, 1, 5, 6, 7, 8, 9], []), (11, [0, 1, 5, 6, 7, 8, 10], [])], [.int .i64], false, false, false, [], false⟩
/-- strings.IndexRune -/
noncomputable def fi323 : FI := ⟨Go.Proofs.Tryz.f323, [(5, [0, 7, 8, 9], []), (12, [0, 7, 8, 9, 12], []), (25, [0, 7, 8, 9, 14, 15], []), (29, [0, 7, 8, 9, 14, 15, 16], []), (38, [175], [])], [.int .i64], false, false, false, [], false⟩
/-- unicode/utf8.RuneStart -/
noncomputable def fi324 : FI := ⟨Go.Proofs.Tryz.f324, [], [.bool], false, false, false, [], false⟩
/-- strings.HasSuffix -/
noncomputable def fi325 : FI := ⟨Go.Proofs.Tryz.f325, [], [.bool], false, false, false, [], false⟩
/-- slices.order2Ordered[string] -/
noncomputable def fi326 : FI := ⟨Go.Proofs.Tryz.f326, [], [.int .i64, .int .i64], false, false, true, [.var 3 [(.int .i64, false)]], true⟩
/-- loop.example/g00172/spec.l1Max -/
noncomputable def fi327 : FI := ⟨Go.Proofs.Tryz.f327, [], [.int .i64], false, false, false, [], false⟩
/-- internal/bytealg.hashStr[string] -/
noncomputable def fi328 : FI := ⟨Go.Proofs.Tryz.f328, [(3, [0, 4, 5], []), (8, [4, 6, 7, 8], [])], [.int .u32, .int .u32], false, false, false, [], false⟩
/-- unicode/utf8.ValidRune -/
noncomputable def fi329 : FI := ⟨Go.Proofs.Tryz.f329, [], [.bool], false, false, false, [], false⟩
/-- internal/stringslite.HasSuffix -/
noncomputable def fi330 : FI := ⟨Go.Proofs.Tryz.f330, [], [.bool], false, false, false, [], false⟩
/-- gosem.cut.vars -/
noncomputable def fi355 : FI := ⟨Go.Proofs.Tryz.f355, [], [], false, false, false, [], false⟩
noncomputable def fiT : Tr FI := (.node 158 fi158 (.node 80 fi80 (.node 41 fi41 (.node 22 fi22 (.node 12 fi12 (.node 7 fi7 (.node 5 fi5 (.node 4 fi4 (.node 3 fi3 .leaf .leaf) .leaf) (.node 6 fi6 .leaf .leaf)) (.node 10 fi10 (.node 9 fi9 (.node 8 fi8 .leaf .leaf) .leaf) (.node 11 fi11 .leaf .leaf))) (.node 17 fi17 (.node 15 fi15 (.node 14 fi14 (.node 13 fi13 .leaf .leaf) .leaf) (.node 16 fi16 .leaf .leaf)) (.node 20 fi20 (.node 19 fi19 (.node 18 fi18 .leaf .leaf) .leaf) (.node 21 fi21 .leaf .leaf)))) (.node 32 fi32 (.node 27 fi27 (.node 25 fi25 (.node 24 fi24 (.node 23 fi23 .leaf .leaf) .leaf) (.node 26 fi26 .leaf .leaf)) (.node 30 fi30 (.node 29 fi29 (.node 28 fi28 .leaf .leaf) .leaf) (.node 31 fi31 .leaf .leaf))) (.node 37 fi37 (.node 35 fi35 (.node 34 fi34 (.node 33 fi33 .leaf .leaf) .leaf) (.node 36 fi36 .leaf .leaf)) (.node 39 fi39 (.node 38 fi38 .leaf .leaf) (.node 40 fi40 .leaf .leaf))))) (.node 61 fi61 (.node 51 fi51 (.node 46 fi46 (.node 44 fi44 (.node 43 fi43 (.node 42 fi42 .leaf .leaf) .leaf) (.node 45 fi45 .leaf .leaf)) (.node 49 fi49 (.node 48 fi48 (.node 47 fi47 .leaf .leaf) .leaf) (.node 50 fi50 .leaf .leaf))) (.node 56 fi56 (.node 54 fi54 (.node 53 fi53 (.node 52 fi52 .leaf .leaf) .leaf) (.node 55 fi55 .leaf .leaf)) (.node 59 fi59 (.node 58 fi58 (.node 57 fi57 .leaf .leaf) .leaf) (.node 60 fi60 .leaf .leaf)))) (.node 71 fi71 (.node 66 fi66 (.node 64 fi64 (.node 63 fi63 (.node 62 fi62 .leaf .leaf) .leaf) (.node 65 fi65 .leaf .leaf)) (.node 69 fi69 (.node 68 fi68 (.node 67 fi67 .leaf .leaf) .leaf) (.node 70 fi70 .leaf .leaf))) (.node 76 fi76 (.node 74 fi74 (.node 73 fi73 (.node 72 fi72 .leaf .leaf) .leaf) (.node 75 fi75 .leaf .leaf)) (.node 78 fi78 (.node 77 fi77 .leaf .leaf) (.node 79 fi79 .leaf .leaf)))))) (.node 119 fi119 (.node 100 fi100 (.node 90 fi90 (.node 85 fi85 (.node 83 fi83 (.node 82 fi82 (.node 81 fi81 .leaf .leaf) .leaf) (.node 84 fi84 .leaf .leaf)) (.node 88 fi88 (.node 87 fi87 (.node 86 fi86 .leaf .leaf) .leaf) (.node 89 fi89 .leaf .leaf))) (.node 95 fi95 (.node 93 fi93 (.node 92 fi92 (.node 91 fi91 .leaf .leaf) .leaf) (.node 94 fi94 .leaf .leaf)) (.node 98 fi98 (.node 97 fi97 (.node 96 fi96 .leaf .leaf) .leaf) (.node 99 fi99 .leaf .leaf)))) (.node 110 fi110 (.node 105 fi105 (.node 103 fi103 (.node 102 fi102 (.node 101 fi101 .leaf .leaf) .leaf) (.node 104 fi104 .leaf .leaf)) (.node 108 fi108 (.node 107 fi107 (.node 106 fi106 .leaf .leaf) .leaf) (.node 109 fi109 .leaf .leaf))) (.node 115 fi115 (.node 113 fi113 (.node 112 fi112 (.node 111 fi111 .leaf .leaf) .leaf) (.node 114 fi114 .leaf .leaf)) (.node 117 fi117 (.node 116 fi116 .leaf .leaf) (.node 118 fi118 .leaf .leaf))))) (.node 139 fi139 (.node 129 fi129 (.node 124 fi124 (.node 122 fi122 (.node 121 fi121 (.node 120 fi120 .leaf .leaf) .leaf) (.node 123 fi123 .leaf .leaf)) (.node 127 fi127 (.node 126 fi126 (.node 125 fi125 .leaf .leaf) .leaf) (.node 128 fi128 .leaf .leaf))) (.node 134 fi134 (.node 132 fi132 (.node 131 fi131 (.node 130 fi130 .leaf .leaf) .leaf) (.node 133 fi133 .leaf .leaf)) (.node 137 fi137 (.node 136 fi136 (.node 135 fi135 .leaf .leaf) .leaf) (.node 138 fi138 .leaf .leaf)))) (.node 149 fi149 (.node 144 fi144 (.node 142 fi142 (.node 141 fi141 (.node 140 fi140 .leaf .leaf) .leaf) (.node 143 fi143 .leaf .leaf)) (.node 147 fi147 (.node 146 fi146 (.node 145 fi145 .leaf .leaf) .leaf) (.node 148 fi148 .leaf .leaf))) (.node 154 fi154 (.node 152 fi152 (.node 151 fi151 (.node 150 fi150 .leaf .leaf) .leaf) (.node 153 fi153 .leaf .leaf)) (.node 156 fi156 (.node 155 fi155 .leaf .leaf) (.node 157 fi157 .leaf .leaf))))))) (.node 247 fi247 (.node 202 fi202 (.node 180 fi180 (.node 170 fi170 (.node 163 fi163 (.node 161 fi161 (.node 160 fi160 (.node 159 fi159 .leaf .leaf) .leaf) (.node 162 fi162 .leaf .leaf)) (.node 167 fi167 (.node 165 fi165 (.node 164 fi164 .leaf .leaf) .leaf) (.node 169 fi169 .leaf .leaf))) (.node 175 fi175 (.node 173 fi173 (.node 172 fi172 (.node 171 fi171 .leaf .leaf) .leaf) (.node 174 fi174 .leaf .leaf)) (.node 178 fi178 (.node 177 fi177 (.node 176 fi176 .leaf .leaf) .leaf) (.node 179 fi179 .leaf .leaf)))) (.node 193 fi193 (.node 187 fi187 (.node 184 fi184 (.node 183 fi183 (.node 182 fi182 .leaf .leaf) .leaf) (.node 185 fi185 .leaf .leaf)) (.node 190 fi190 (.node 189 fi189 (.node 188 fi188 .leaf .leaf) .leaf) (.node 191 fi191 .leaf .leaf))) (.node 198 fi198 (.node 196 fi196 (.node 195 fi195 (.node 194 fi194 .leaf .leaf) .leaf) (.node 197 fi197 .leaf .leaf)) (.node 200 fi200 (.node 199 fi199 .leaf .leaf) (.node 201 fi201 .leaf .leaf))))) (.node 224 fi224 (.node 213 fi213 (.node 207 fi207 (.node 205 fi205 (.node 204 fi204 (.node 203 fi203 .leaf .leaf) .leaf) (.node 206 fi206 .leaf .leaf)) (.node 211 fi211 (.node 210 fi210 (.node 209 fi209 .leaf .leaf) .leaf) (.node 212 fi212 .leaf .leaf))) (.node 218 fi218 (.node 216 fi216 (.node 215 fi215 (.node 214 fi214 .leaf .leaf) .leaf) (.node 217 fi217 .leaf .leaf)) (.node 222 fi222 (.node 220 fi220 (.node 219 fi219 .leaf .leaf) .leaf) (.node 223 fi223 .leaf .leaf)))) (.node 237 fi237 (.node 229 fi229 (.node 227 fi227 (.node 226 fi226 (.node 225 fi225 .leaf .leaf) .leaf) (.node 228 fi228 .leaf .leaf)) (.node 234 fi234 (.node 232 fi232 (.node 230 fi230 .leaf .leaf) .leaf) (.node 236 fi236 .leaf .leaf))) (.node 243 fi243 (.node 240 fi240 (.node 239 fi239 (.node 238 fi238 .leaf .leaf) .leaf) (.node 242 fi242 .leaf .leaf)) (.node 245 fi245 (.node 244 fi244 .leaf .leaf) (.node 246 fi246 .leaf .leaf)))))) (.node 289 fi289 (.node 269 fi269 (.node 257 fi257 (.node 252 fi252 (.node 250 fi250 (.node 249 fi249 (.node 248 fi248 .leaf .leaf) .leaf) (.node 251 fi251 .leaf .leaf)) (.node 255 fi255 (.node 254 fi254 (.node 253 fi253 .leaf .leaf) .leaf) (.node 256 fi256 .leaf .leaf))) (.node 262 fi262 (.node 260 fi260 (.node 259 fi259 (.node 258 fi258 .leaf .leaf) .leaf) (.node 261 fi261 .leaf .leaf)) (.node 267 fi267 (.node 264 fi264 (.node 263 fi263 .leaf .leaf) .leaf) (.node 268 fi268 .leaf .leaf)))) (.node 280 fi280 (.node 275 fi275 (.node 273 fi273 (.node 272 fi272 (.node 271 fi271 .leaf .leaf) .leaf) (.node 274 fi274 .leaf .leaf)) (.node 278 fi278 (.node 277 fi277 (.node 276 fi276 .leaf .leaf) .leaf) (.node 279 fi279 .leaf .leaf))) (.node 285 fi285 (.node 283 fi283 (.node 282 fi282 (.node 281 fi281 .leaf .leaf) .leaf) (.node 284 fi284 .leaf .leaf)) (.node 287 fi287 (.node 286 fi286 .leaf .leaf) (.node 288 fi288 .leaf .leaf))))) (.node 311 fi311 (.node 301 fi301 (.node 295 fi295 (.node 292 fi292 (.node 291 fi291 (.node 290 fi290 .leaf .leaf) .leaf) (.node 293 fi293 .leaf .leaf)) (.node 299 fi299 (.node 298 fi298 (.node 296 fi296 .leaf .leaf) .leaf) (.node 300 fi300 .leaf .leaf))) (.node 307 fi307 (.node 305 fi305 (.node 304 fi304 (.node 303 fi303 .leaf .leaf) .leaf) (.node 306 fi306 .leaf .leaf)) (.node 309 fi309 (.node 308 fi308 .leaf .leaf) (.node 310 fi310 .leaf .leaf)))) (.node 323 fi323 (.node 317 fi317 (.node 314 fi314 (.node 313 fi313 (.node 312 fi312 .leaf .leaf) .leaf) (.node 316 fi316 .leaf .leaf)) (.node 321 fi321 (.node 319 fi319 (.node 318 fi318 .leaf .leaf) .leaf) (.node 322 fi322 .leaf .leaf))) (.node 328 fi328 (.node 326 fi326 (.node 325 fi325 (.node 324 fi324 .leaf .leaf) .leaf) (.node 327 fi327 .leaf .leaf)) (.node 330 fi330 (.node 329 fi329 .leaf .leaf) (.node 355 fi355 .leaf .leaf))))))))
/-- the tables that the contracts want -/
noncomputable def tabs (k : Nat) : Option (Array Value) := match Nat.beq k 1 with
  | true => some (Go.Lib.pow10Tab.map fun z => Value.int .u64 z).toArray
  | false => match Nat.beq k 3 with
  | true => some ((Go.Lib.deBruijn64tab.map fun z : Nat => (z : Int)).map fun z => Value.int .u8 z).toArray
  | false => none
/-- xtOf, for the tables -/
def xtF (l : List (Nat × XT)) (f : Nat) : Option XT := match l with
  | [] => none
  | (k, x) :: r => match Nat.beq k f with
    | true => some x
    | false => xtF r f
def xtL : List (Nat × XT) := [(265, .compare), (266, .indexByte), (297, .count), (186, .insert (.st (.pair .str (.pair (.int .i64) (.pair .str .unit))))), (192, .insert (.st (.pair .str (.pair (.int .i64) (.pair .str .unit))))), (208, .insert (.st (.pair .str (.pair (.int .i64) (.pair (.int .i64) (.pair .str .unit)))))), (181, .join), (302, .table), (315, .table), (231, .chk 186), (166, .lib .fmtInt), (168, .lib .rep), (221, .lib .trim)]
/-- structs that may be compared -/
def eqL : List (Nat × List Ty) := [(27, [.int .i64, .str]), (53, [.str, .int .i64, .str]), (58, [.str, .int .i64, .str]), (84, [.str, .int .i64, .str]), (87, [.str, .int .i64, .int .i64, .str]), (90, [.str, .int .i64, .str]), (92, [.str, .int .i64, .int .i64, .str]), (99, [.str, .str]), (102, [.str, .str]), (114, [.str, .str]), (122, [.str, .str]), (207, [.int .i64, .int .i64, .str])]
noncomputable def env : Env := { eqT := eqF eqL, fi := fiT.find, xt := xtF xtL, ti := fun t => (tiT.find t).getD ⟨.other, false, 1000000000, 0, .unit, [], []⟩, glob := fun _ => none, tab := tabs }
end Go.Proofs.YtmojilihllhadaaGreatDoor.Ev
