/- The tables of this seat for the evaluator: printed by mkenv.py, a program of mine, out of the translation. -/
import Derived.Test.YtjklgmflillagaaEv0
import Derived.Test.YtjklgmflillagaaProg
namespace Go.Proofs.Ytjklgmflillagaa.Ev
open Go

abbrev noS : ByteArray := ⟨#[]⟩
abbrev T_boundsError : Ty := (.st (.pair (.int .i64) (.pair (.int .i64) (.pair .bool (.pair (.int .u8) .unit)))))
abbrev T_errorAddressString : Ty := (.st (.pair .str (.pair (.int .u64) .unit)))
abbrev T_File : Ty := (.st (.pair .str (.pair (.int .i64) (.pair .str .unit))))
abbrev T_TextResult : Ty := (.st (.pair (.int .i64) (.pair .str .unit)))
abbrev T_CommitsResult : Ty := (.st (.pair (.int .i64) (.pair (.int .i64) (.pair (.sl (.st (.pair .str (.pair (.int .i64) (.pair .str .unit))))) (.pair (.sl (.st (.pair .str (.pair (.int .i64) (.pair (.int .i64) (.pair .str .unit)))))) (.pair (.sl (.st (.pair .str (.pair .str .unit)))) .unit))))))
abbrev T_Repo : Ty := (.st (.pair (.sl (.st (.pair .str (.pair (.int .i64) (.pair .str .unit))))) (.pair (.sl (.st (.pair .str (.pair .str .unit)))) (.pair .str (.pair .str (.pair (.sl (.st (.pair .str (.pair (.int .i64) (.pair (.int .i64) (.pair .str .unit)))))) (.pair (.sl (.st (.pair .str (.pair .str .unit)))) (.pair (.sl (.st (.pair .str (.pair .str .unit)))) (.pair (.int .i64) .unit)))))))))
abbrev T_RepoResult : Ty := (.st (.pair (.int .i64) (.pair .str (.pair (.st (.pair (.sl (.st (.pair .str (.pair (.int .i64) (.pair .str .unit))))) (.pair (.sl (.st (.pair .str (.pair .str .unit)))) (.pair .str (.pair .str (.pair (.sl (.st (.pair .str (.pair (.int .i64) (.pair (.int .i64) (.pair .str .unit)))))) (.pair (.sl (.st (.pair .str (.pair .str .unit)))) (.pair (.sl (.st (.pair .str (.pair .str .unit)))) (.pair (.int .i64) .unit))))))))) .unit))))
abbrev T_Work : Ty := (.st (.pair .str (.pair .str .unit)))
abbrev T_Entry : Ty := (.st (.pair .str (.pair (.int .i64) (.pair (.int .i64) (.pair .str .unit)))))
def ty2 : TI := ⟨.int .i64, false, 1, 8, .int .i64, [], [.int .i64 0]⟩
def ty3 : TI := ⟨.int .i64, false, 1, 8, .int .i64, [], [.int .i64 0]⟩
def ty4 : TI := ⟨.bool, false, 1, 1, .bool, [], [.bool false]⟩
def ty5 : TI := ⟨.int .u8, false, 1, 1, .int .u8, [], [.int .u8 0]⟩
def ty6 : TI := ⟨.int .u8, false, 1, 1, .int .u8, [], [.int .u8 0]⟩
def ty7 : TI := ⟨.struct, true, 4, 24, (.st (.pair (.int .i64) (.pair (.int .i64) (.pair .bool (.pair (.int .u8) .unit))))), [(0, 1, false), (1, 1, false), (2, 1, false), (3, 1, false)], [.int .i64 0, .int .i64 0, .bool false, .int .u8 0]⟩
def ty9 : TI := ⟨.str, false, 1, 16, .str, [], [.str ⟨#[]⟩]⟩
def ty12 : TI := ⟨.int .u64, false, 1, 8, .int .u64, [], [.int .u64 0]⟩
def ty13 : TI := ⟨.struct, true, 2, 24, (.st (.pair .str (.pair (.int .u64) .unit))), [(0, 1, false), (1, 1, false)], [.str ⟨#[]⟩, .int .u64 0]⟩
def ty15 : TI := ⟨.ptr 112, false, 1, 8, .unit, [], [.raw (.pointer none)]⟩
def ty16 : TI := ⟨.ptr 115, false, 1, 8, .unit, [], [.raw (.pointer none)]⟩
def ty17 : TI := ⟨.ptr 125, false, 1, 8, .unit, [], [.raw (.pointer none)]⟩
def ty18 : TI := ⟨.struct, true, 1, 8, .unit, [(0, 1, false)], [.raw (.pointer none)]⟩
def ty19 : TI := ⟨.struct, true, 1, 8, .unit, [(0, 1, false)], [.raw (.pointer none)]⟩
def ty21 : TI := ⟨.int .i32, false, 1, 4, .int .i32, [], [.int .i32 0]⟩
def ty22 : TI := ⟨.struct, true, 3, 40, (.st (.pair .str (.pair (.int .i64) (.pair .str .unit)))), [(0, 1, false), (1, 1, false), (2, 1, false)], [.str ⟨#[]⟩, .int .i64 0, .str ⟨#[]⟩]⟩
def ty23 : TI := ⟨.struct, true, 3, 40, (.st (.pair .str (.pair (.int .i64) (.pair .str .unit)))), [(0, 1, false), (1, 1, false), (2, 1, false)], [.str ⟨#[]⟩, .int .i64 0, .str ⟨#[]⟩]⟩
def ty26 : TI := ⟨.struct, true, 3, 40, (.st (.pair .str (.pair (.int .i64) (.pair .str .unit)))), [(0, 1, false), (1, 1, false), (2, 1, false)], [.str ⟨#[]⟩, .int .i64 0, .str ⟨#[]⟩]⟩
def ty29 : TI := ⟨.slice 65, false, 1, 24, (.sl (.st (.pair .str (.pair .str .unit)))), [], [.emp]⟩
def ty31 : TI := ⟨.struct, true, 2, 24, (.st (.pair (.int .i64) (.pair .str .unit))), [(0, 1, false), (1, 1, false)], [.int .i64 0, .str ⟨#[]⟩]⟩
def ty32 : TI := ⟨.struct, true, 2, 24, (.st (.pair (.int .i64) (.pair .str .unit))), [(0, 1, false), (1, 1, false)], [.int .i64 0, .str ⟨#[]⟩]⟩
def ty34 : TI := ⟨.slice 66, false, 1, 24, (.sl (.st (.pair .str (.pair .str .unit)))), [], [.emp]⟩
def ty39 : TI := ⟨.slice 85, false, 1, 24, (.sl (.st (.pair .str (.pair (.int .i64) (.pair .str .unit))))), [], [.emp]⟩
def ty40 : TI := ⟨.slice 87, false, 1, 24, (.sl (.st (.pair .str (.pair (.int .i64) (.pair (.int .i64) (.pair .str .unit)))))), [], [.emp]⟩
def ty41 : TI := ⟨.struct, true, 5, 88, (.st (.pair (.int .i64) (.pair (.int .i64) (.pair (.sl (.st (.pair .str (.pair (.int .i64) (.pair .str .unit))))) (.pair (.sl (.st (.pair .str (.pair (.int .i64) (.pair (.int .i64) (.pair .str .unit)))))) (.pair (.sl (.st (.pair .str (.pair .str .unit)))) .unit)))))), [(0, 1, false), (1, 1, false), (2, 1, false), (3, 1, false), (4, 1, false)], [.int .i64 0, .int .i64 0, .emp, .emp, .emp]⟩
def ty42 : TI := ⟨.struct, true, 5, 88, (.st (.pair (.int .i64) (.pair (.int .i64) (.pair (.sl (.st (.pair .str (.pair (.int .i64) (.pair .str .unit))))) (.pair (.sl (.st (.pair .str (.pair (.int .i64) (.pair (.int .i64) (.pair .str .unit)))))) (.pair (.sl (.st (.pair .str (.pair .str .unit)))) .unit)))))), [(0, 1, false), (1, 1, false), (2, 1, false), (3, 1, false), (4, 1, false)], [.int .i64 0, .int .i64 0, .emp, .emp, .emp]⟩
def ty45 : TI := ⟨.slice 88, false, 1, 24, (.sl (.st (.pair .str (.pair (.int .i64) (.pair .str .unit))))), [], [.emp]⟩
def ty46 : TI := ⟨.slice 72, false, 1, 24, (.sl (.st (.pair .str (.pair (.int .i64) (.pair (.int .i64) (.pair .str .unit)))))), [], [.emp]⟩
def ty47 : TI := ⟨.struct, true, 5, 88, (.st (.pair (.int .i64) (.pair (.int .i64) (.pair (.sl (.st (.pair .str (.pair (.int .i64) (.pair .str .unit))))) (.pair (.sl (.st (.pair .str (.pair (.int .i64) (.pair (.int .i64) (.pair .str .unit)))))) (.pair (.sl (.st (.pair .str (.pair .str .unit)))) .unit)))))), [(0, 1, false), (1, 1, false), (2, 1, false), (3, 1, false), (4, 1, false)], [.int .i64 0, .int .i64 0, .emp, .emp, .emp]⟩
def ty48 : TI := ⟨.struct, true, 5, 88, (.st (.pair (.int .i64) (.pair (.int .i64) (.pair (.sl (.st (.pair .str (.pair (.int .i64) (.pair .str .unit))))) (.pair (.sl (.st (.pair .str (.pair (.int .i64) (.pair (.int .i64) (.pair .str .unit)))))) (.pair (.sl (.st (.pair .str (.pair .str .unit)))) .unit)))))), [(0, 1, false), (1, 1, false), (2, 1, false), (3, 1, false), (4, 1, false)], [.int .i64 0, .int .i64 0, .emp, .emp, .emp]⟩
def ty52 : TI := ⟨.slice 104, false, 1, 24, (.sl (.st (.pair .str (.pair .str .unit)))), [], [.emp]⟩
def ty53 : TI := ⟨.slice 107, false, 1, 24, (.sl (.st (.pair .str (.pair .str .unit)))), [], [.emp]⟩
def ty54 : TI := ⟨.struct, true, 8, 160, (.st (.pair (.sl (.st (.pair .str (.pair (.int .i64) (.pair .str .unit))))) (.pair (.sl (.st (.pair .str (.pair .str .unit)))) (.pair .str (.pair .str (.pair (.sl (.st (.pair .str (.pair (.int .i64) (.pair (.int .i64) (.pair .str .unit)))))) (.pair (.sl (.st (.pair .str (.pair .str .unit)))) (.pair (.sl (.st (.pair .str (.pair .str .unit)))) (.pair (.int .i64) .unit))))))))), [(0, 1, false), (1, 1, false), (2, 1, false), (3, 1, false), (4, 1, false), (5, 1, false), (6, 1, false), (7, 1, false)], [.emp, .emp, .str ⟨#[]⟩, .str ⟨#[]⟩, .emp, .emp, .emp, .int .i64 0]⟩
def ty55 : TI := ⟨.struct, true, 8, 160, (.st (.pair (.sl (.st (.pair .str (.pair (.int .i64) (.pair .str .unit))))) (.pair (.sl (.st (.pair .str (.pair .str .unit)))) (.pair .str (.pair .str (.pair (.sl (.st (.pair .str (.pair (.int .i64) (.pair (.int .i64) (.pair .str .unit)))))) (.pair (.sl (.st (.pair .str (.pair .str .unit)))) (.pair (.sl (.st (.pair .str (.pair .str .unit)))) (.pair (.int .i64) .unit))))))))), [(0, 1, false), (1, 1, false), (2, 1, false), (3, 1, false), (4, 1, false), (5, 1, false), (6, 1, false), (7, 1, false)], [.emp, .emp, .str ⟨#[]⟩, .str ⟨#[]⟩, .emp, .emp, .emp, .int .i64 0]⟩
def ty56 : TI := ⟨.struct, true, 10, 184, (.st (.pair (.int .i64) (.pair .str (.pair (.st (.pair (.sl (.st (.pair .str (.pair (.int .i64) (.pair .str .unit))))) (.pair (.sl (.st (.pair .str (.pair .str .unit)))) (.pair .str (.pair .str (.pair (.sl (.st (.pair .str (.pair (.int .i64) (.pair (.int .i64) (.pair .str .unit)))))) (.pair (.sl (.st (.pair .str (.pair .str .unit)))) (.pair (.sl (.st (.pair .str (.pair .str .unit)))) (.pair (.int .i64) .unit))))))))) .unit)))), [(0, 1, false), (1, 1, false), (2, 8, true)], [.int .i64 0, .str ⟨#[]⟩, .emp, .emp, .str ⟨#[]⟩, .str ⟨#[]⟩, .emp, .emp, .emp, .int .i64 0]⟩
def ty57 : TI := ⟨.struct, true, 10, 184, (.st (.pair (.int .i64) (.pair .str (.pair (.st (.pair (.sl (.st (.pair .str (.pair (.int .i64) (.pair .str .unit))))) (.pair (.sl (.st (.pair .str (.pair .str .unit)))) (.pair .str (.pair .str (.pair (.sl (.st (.pair .str (.pair (.int .i64) (.pair (.int .i64) (.pair .str .unit)))))) (.pair (.sl (.st (.pair .str (.pair .str .unit)))) (.pair (.sl (.st (.pair .str (.pair .str .unit)))) (.pair (.int .i64) .unit))))))))) .unit)))), [(0, 1, false), (1, 1, false), (2, 8, true)], [.int .i64 0, .str ⟨#[]⟩, .emp, .emp, .str ⟨#[]⟩, .str ⟨#[]⟩, .emp, .emp, .emp, .int .i64 0]⟩
def ty64 : TI := ⟨.struct, true, 2, 32, (.st (.pair .str (.pair .str .unit))), [(0, 1, false), (1, 1, false)], [.str ⟨#[]⟩, .str ⟨#[]⟩]⟩
def ty65 : TI := ⟨.struct, true, 2, 32, (.st (.pair .str (.pair .str .unit))), [(0, 1, false), (1, 1, false)], [.str ⟨#[]⟩, .str ⟨#[]⟩]⟩
def ty66 : TI := ⟨.struct, true, 2, 32, (.st (.pair .str (.pair .str .unit))), [(0, 1, false), (1, 1, false)], [.str ⟨#[]⟩, .str ⟨#[]⟩]⟩
def ty71 : TI := ⟨.struct, true, 4, 48, (.st (.pair .str (.pair (.int .i64) (.pair (.int .i64) (.pair .str .unit))))), [(0, 1, false), (1, 1, false), (2, 1, false), (3, 1, false)], [.str ⟨#[]⟩, .int .i64 0, .int .i64 0, .str ⟨#[]⟩]⟩
def ty72 : TI := ⟨.struct, true, 4, 48, (.st (.pair .str (.pair (.int .i64) (.pair (.int .i64) (.pair .str .unit))))), [(0, 1, false), (1, 1, false), (2, 1, false), (3, 1, false)], [.str ⟨#[]⟩, .int .i64 0, .int .i64 0, .str ⟨#[]⟩]⟩
def ty75 : TI := ⟨.slice 9, false, 1, 24, (.sl .str), [], [.emp]⟩
def ty84 : TI := ⟨.struct, true, 3, 40, (.st (.pair .str (.pair (.int .i64) (.pair .str .unit)))), [(0, 1, false), (1, 1, false), (2, 1, false)], [.str ⟨#[]⟩, .int .i64 0, .str ⟨#[]⟩]⟩
def ty85 : TI := ⟨.struct, true, 3, 40, (.st (.pair .str (.pair (.int .i64) (.pair .str .unit)))), [(0, 1, false), (1, 1, false), (2, 1, false)], [.str ⟨#[]⟩, .int .i64 0, .str ⟨#[]⟩]⟩
def ty87 : TI := ⟨.struct, true, 4, 48, (.st (.pair .str (.pair (.int .i64) (.pair (.int .i64) (.pair .str .unit))))), [(0, 1, false), (1, 1, false), (2, 1, false), (3, 1, false)], [.str ⟨#[]⟩, .int .i64 0, .int .i64 0, .str ⟨#[]⟩]⟩
def ty88 : TI := ⟨.struct, true, 3, 40, (.st (.pair .str (.pair (.int .i64) (.pair .str .unit)))), [(0, 1, false), (1, 1, false), (2, 1, false)], [.str ⟨#[]⟩, .int .i64 0, .str ⟨#[]⟩]⟩
def ty103 : TI := ⟨.struct, true, 2, 32, (.st (.pair .str (.pair .str .unit))), [(0, 1, false), (1, 1, false)], [.str ⟨#[]⟩, .str ⟨#[]⟩]⟩
def ty104 : TI := ⟨.struct, true, 2, 32, (.st (.pair .str (.pair .str .unit))), [(0, 1, false), (1, 1, false)], [.str ⟨#[]⟩, .str ⟨#[]⟩]⟩
def ty106 : TI := ⟨.struct, true, 2, 32, (.st (.pair .str (.pair .str .unit))), [(0, 1, false), (1, 1, false)], [.str ⟨#[]⟩, .str ⟨#[]⟩]⟩
def ty107 : TI := ⟨.struct, true, 2, 32, (.st (.pair .str (.pair .str .unit))), [(0, 1, false), (1, 1, false)], [.str ⟨#[]⟩, .str ⟨#[]⟩]⟩
def ty109 : TI := ⟨.slice 5, false, 1, 24, (.sl (.int .u8)), [], [.emp]⟩
def ty111 : TI := ⟨.struct, true, 4, 40, .unit, [(0, 1, false), (1, 1, false), (2, 1, false), (3, 1, false)], [.raw (.pointer none), .raw (.pointer none), .raw (.pointer none), .str ⟨#[]⟩]⟩
def ty113 : TI := ⟨.other, true, 0, 0, .unit, [], []⟩
def ty114 : TI := ⟨.struct, true, 0, 0, .unit, [(0, 0, true)], []⟩
def ty117 : TI := ⟨.int .u32, false, 1, 4, .int .u32, [], [.int .u32 0]⟩
def ty118 : TI := ⟨.int .u8, false, 1, 1, .int .u8, [], [.int .u8 0]⟩
def ty119 : TI := ⟨.int .u8, false, 1, 1, .int .u8, [], [.int .u8 0]⟩
def ty121 : TI := ⟨.ptr 5, false, 1, 8, .unit, [], [.raw (.pointer none)]⟩
def ty122 : TI := ⟨.int .i32, false, 1, 4, .int .i32, [], [.int .i32 0]⟩
def ty123 : TI := ⟨.int .i32, false, 1, 4, .int .i32, [], [.int .i32 0]⟩
def ty124 : TI := ⟨.struct, true, 11, 48, .unit, [(0, 1, false), (1, 1, false), (2, 1, false), (3, 1, false), (4, 1, false), (5, 1, false), (6, 1, false), (7, 1, false), (8, 1, false), (9, 1, false), (10, 1, false)], [.int .u64 0, .int .u64 0, .int .u32 0, .int .u8 0, .int .u8 0, .int .u8 0, .int .u8 0, .raw .nilFunc, .raw (.pointer none), .int .i32 0, .int .i32 0]⟩
def ty125 : TI := ⟨.struct, true, 11, 48, .unit, [(0, 1, false), (1, 1, false), (2, 1, false), (3, 1, false), (4, 1, false), (5, 1, false), (6, 1, false), (7, 1, false), (8, 1, false), (9, 1, false), (10, 1, false)], [.int .u64 0, .int .u64 0, .int .u32 0, .int .u8 0, .int .u8 0, .int .u8 0, .int .u8 0, .raw .nilFunc, .raw (.pointer none), .int .i32 0, .int .i32 0]⟩
def ty126 : TI := ⟨.other, false, 1, 8, .unit, [], [.raw (.pointer none)]⟩
def tiT : Tr TI := (.node 53 ty53 (.node 22 ty22 (.node 12 ty12 (.node 5 ty5 (.node 3 ty3 (.node 2 ty2 .leaf .leaf) (.node 4 ty4 .leaf .leaf)) (.node 7 ty7 (.node 6 ty6 .leaf .leaf) (.node 9 ty9 .leaf .leaf))) (.node 17 ty17 (.node 15 ty15 (.node 13 ty13 .leaf .leaf) (.node 16 ty16 .leaf .leaf)) (.node 19 ty19 (.node 18 ty18 .leaf .leaf) (.node 21 ty21 .leaf .leaf)))) (.node 40 ty40 (.node 31 ty31 (.node 26 ty26 (.node 23 ty23 .leaf .leaf) (.node 29 ty29 .leaf .leaf)) (.node 34 ty34 (.node 32 ty32 .leaf .leaf) (.node 39 ty39 .leaf .leaf))) (.node 46 ty46 (.node 42 ty42 (.node 41 ty41 .leaf .leaf) (.node 45 ty45 .leaf .leaf)) (.node 48 ty48 (.node 47 ty47 .leaf .leaf) (.node 52 ty52 .leaf .leaf))))) (.node 104 ty104 (.node 71 ty71 (.node 57 ty57 (.node 55 ty55 (.node 54 ty54 .leaf .leaf) (.node 56 ty56 .leaf .leaf)) (.node 65 ty65 (.node 64 ty64 .leaf .leaf) (.node 66 ty66 .leaf .leaf))) (.node 85 ty85 (.node 75 ty75 (.node 72 ty72 .leaf .leaf) (.node 84 ty84 .leaf .leaf)) (.node 88 ty88 (.node 87 ty87 .leaf .leaf) (.node 103 ty103 .leaf .leaf)))) (.node 118 ty118 (.node 111 ty111 (.node 107 ty107 (.node 106 ty106 .leaf .leaf) (.node 109 ty109 .leaf .leaf)) (.node 114 ty114 (.node 113 ty113 .leaf .leaf) (.node 117 ty117 .leaf .leaf))) (.node 123 ty123 (.node 121 ty121 (.node 119 ty119 .leaf .leaf) (.node 122 ty122 .leaf .leaf)) (.node 125 ty125 (.node 124 ty124 .leaf .leaf) (.node 126 ty126 .leaf .leaf))))))
/-- loop.example/g00172/laws.FnExactMergeKind -/
noncomputable def fi3 : FI := ⟨Go.Proofs.Try.f3, [], [.bool], false, false, false, []⟩
/-- loop.example/g00172/laws.FnExactWorkText -/
noncomputable def fi4 : FI := ⟨Go.Proofs.Try.f4, [], [.bool], false, false, false, []⟩
/-- loop.example/g00172/laws.FnExactIsClean -/
noncomputable def fi5 : FI := ⟨Go.Proofs.Try.f5, [], [.bool], false, false, false, []⟩
/-- loop.example/g00172/laws.FnExactNewRepo -/
noncomputable def fi6 : FI := ⟨Go.Proofs.Try.f6, [], [.bool], false, false, false, []⟩
/-- loop.example/g00172/laws.szFile -/
noncomputable def fi7 : FI := ⟨Go.Proofs.Try.f7, [], [.int .i64], false, false, false, []⟩
/-- loop.example/g00172/spec.MergeKind -/
noncomputable def fi8 : FI := ⟨Go.Proofs.Try.f8, [], [.int .i64], false, false, false, []⟩
/-- loop.example/g00172/laws.toFile -/
noncomputable def fi9 : FI := ⟨Go.Proofs.Try.f9, [], [(.st (.pair .str (.pair (.int .i64) (.pair .str .unit))))], false, false, false, []⟩
/-- loop.example/g00172/impl.MergeKind -/
noncomputable def fi10 : FI := ⟨Go.Proofs.Try.f10, [], [.int .i64], false, false, false, []⟩
/-- loop.example/g00172/laws.szWorkS -/
noncomputable def fi11 : FI := ⟨Go.Proofs.Try.f11, [(5, [0, 1, 5], [])], [.int .i64], false, false, false, []⟩
/-- loop.example/g00172/spec.WorkText -/
noncomputable def fi12 : FI := ⟨Go.Proofs.Try.f12, [(2, [0, 1, 4, 5], [])], [(.st (.pair (.int .i64) (.pair .str .unit)))], false, false, false, []⟩
/-- loop.example/g00172/laws.toWorkS -/
noncomputable def fi13 : FI := ⟨Go.Proofs.Try.f13, [(3, [0, 3, 4], [])], [(.sl (.st (.pair .str (.pair .str .unit))))], false, false, false, []⟩
/-- loop.example/g00172/impl.WorkText -/
noncomputable def fi14 : FI := ⟨Go.Proofs.Try.f14, [(2, [1, 4, 7, 8, 9], [])], [(.st (.pair (.int .i64) (.pair .str .unit)))], false, false, false, []⟩
/-- loop.example/g00172/laws.eqTextResult -/
noncomputable def fi15 : FI := ⟨Go.Proofs.Try.f15, [], [.bool], false, false, false, []⟩
/-- loop.example/g00172/laws.eqWorkS -/
noncomputable def fi16 : FI := ⟨Go.Proofs.Try.f16, [(4, [0, 1, 5], [])], [.bool], false, false, false, []⟩
/-- loop.example/g00172/laws.szCommitsResult -/
noncomputable def fi17 : FI := ⟨Go.Proofs.Try.f17, [], [.int .i64], false, false, false, []⟩
/-- loop.example/g00172/spec.IsClean -/
noncomputable def fi18 : FI := ⟨Go.Proofs.Try.f18, [(4, [1, 3], [])], [.bool], false, false, false, []⟩
/-- loop.example/g00172/laws.toCommitsResult -/
noncomputable def fi19 : FI := ⟨Go.Proofs.Try.f19, [], [(.st (.pair (.int .i64) (.pair (.int .i64) (.pair (.sl (.st (.pair .str (.pair (.int .i64) (.pair .str .unit))))) (.pair (.sl (.st (.pair .str (.pair (.int .i64) (.pair (.int .i64) (.pair .str .unit)))))) (.pair (.sl (.st (.pair .str (.pair .str .unit)))) .unit))))))], false, false, false, []⟩
/-- loop.example/g00172/impl.IsClean -/
noncomputable def fi20 : FI := ⟨Go.Proofs.Try.f20, [], [.bool], false, false, false, []⟩
/-- loop.example/g00172/laws.eqCommitsResult -/
noncomputable def fi21 : FI := ⟨Go.Proofs.Try.f21, [], [.bool], false, false, false, []⟩
/-- loop.example/g00172/spec.NewRepo -/
noncomputable def fi22 : FI := ⟨Go.Proofs.Try.f22, [], [(.st (.pair (.int .i64) (.pair .str (.pair (.st (.pair (.sl (.st (.pair .str (.pair (.int .i64) (.pair .str .unit))))) (.pair (.sl (.st (.pair .str (.pair .str .unit)))) (.pair .str (.pair .str (.pair (.sl (.st (.pair .str (.pair (.int .i64) (.pair (.int .i64) (.pair .str .unit)))))) (.pair (.sl (.st (.pair .str (.pair .str .unit)))) (.pair (.sl (.st (.pair .str (.pair .str .unit)))) (.pair (.int .i64) .unit))))))))) .unit))))], false, false, false, []⟩
/-- loop.example/g00172/impl.NewRepo -/
noncomputable def fi23 : FI := ⟨Go.Proofs.Try.f23, [], [(.st (.pair (.int .i64) (.pair .str (.pair (.st (.pair (.sl (.st (.pair .str (.pair (.int .i64) (.pair .str .unit))))) (.pair (.sl (.st (.pair .str (.pair .str .unit)))) (.pair .str (.pair .str (.pair (.sl (.st (.pair .str (.pair (.int .i64) (.pair (.int .i64) (.pair .str .unit)))))) (.pair (.sl (.st (.pair .str (.pair .str .unit)))) (.pair (.sl (.st (.pair .str (.pair .str .unit)))) (.pair (.int .i64) .unit))))))))) .unit))))], true, false, false, []⟩
/-- loop.example/g00172/laws.eqRepoResult -/
noncomputable def fi24 : FI := ⟨Go.Proofs.Try.f24, [], [.bool], false, false, false, []⟩
/-- loop.example/g00172/laws.markRepoResult -/
noncomputable def fi25 : FI := ⟨Go.Proofs.Try.f25, [], [.int .i64], true, false, true, [(.st (.pair .str (.pair (.int .i64) (.pair .str .unit)))), (.st (.pair .str (.pair .str .unit))), (.st (.pair .str (.pair (.int .i64) (.pair (.int .i64) (.pair .str .unit))))), (.st (.pair .str (.pair .str .unit))), (.st (.pair .str (.pair .str .unit)))]⟩
/-- loop.example/g00172/laws.heldRepoResult -/
noncomputable def fi26 : FI := ⟨Go.Proofs.Try.f26, [], [.int .i64], false, false, false, []⟩
/-- loop.example/g00172/impl.isNone -/
noncomputable def fi27 : FI := ⟨Go.Proofs.Try.f27, [], [.bool], false, false, false, []⟩
/-- loop.example/g00172/laws.szWork -/
noncomputable def fi28 : FI := ⟨Go.Proofs.Try.f28, [], [.int .i64], false, false, false, []⟩
/-- loop.example/g00172/laws.toWork -/
noncomputable def fi29 : FI := ⟨Go.Proofs.Try.f29, [], [(.st (.pair .str (.pair .str .unit)))], false, false, false, []⟩
/-- loop.example/g00172/laws.eqWork -/
noncomputable def fi30 : FI := ⟨Go.Proofs.Try.f30, [], [.bool], false, false, false, []⟩
/-- loop.example/g00172/laws.szObjectS -/
noncomputable def fi31 : FI := ⟨Go.Proofs.Try.f31, [(5, [0, 1, 5], [])], [.int .i64], false, false, false, []⟩
/-- loop.example/g00172/laws.szEntryS -/
noncomputable def fi32 : FI := ⟨Go.Proofs.Try.f32, [(5, [0, 1, 5], [])], [.int .i64], false, false, false, []⟩
/-- loop.example/g00172/laws.toObjectS -/
noncomputable def fi33 : FI := ⟨Go.Proofs.Try.f33, [(3, [0, 3, 4], [])], [(.sl (.st (.pair .str (.pair (.int .i64) (.pair .str .unit)))))], false, false, false, []⟩
/-- loop.example/g00172/laws.toEntryS -/
noncomputable def fi34 : FI := ⟨Go.Proofs.Try.f34, [(3, [0, 3, 4], [])], [(.sl (.st (.pair .str (.pair (.int .i64) (.pair (.int .i64) (.pair .str .unit))))))], false, false, false, []⟩
/-- loop.example/g00172/impl.clashesIn -/
noncomputable def fi35 : FI := ⟨Go.Proofs.Try.f35, [(3, [3, 7, 8, 9], [])], [(.sl .str)], false, false, false, []⟩
/-- loop.example/g00172/laws.eqObjectS -/
noncomputable def fi36 : FI := ⟨Go.Proofs.Try.f36, [(4, [0, 1, 5], [])], [.bool], false, false, false, []⟩
/-- loop.example/g00172/laws.eqEntryS -/
noncomputable def fi37 : FI := ⟨Go.Proofs.Try.f37, [(4, [0, 1, 5], [])], [.bool], false, false, false, []⟩
/-- loop.example/g00172/spec.NameFault -/
noncomputable def fi38 : FI := ⟨Go.Proofs.Try.f38, [(4, [0, 3], [])], [.int .i64], false, false, false, []⟩
/-- loop.example/g00172/spec.l14Bad -/
noncomputable def fi39 : FI := ⟨Go.Proofs.Try.f39, [], [(.st (.pair (.int .i64) (.pair .str (.pair (.st (.pair (.sl (.st (.pair .str (.pair (.int .i64) (.pair .str .unit))))) (.pair (.sl (.st (.pair .str (.pair .str .unit)))) (.pair .str (.pair .str (.pair (.sl (.st (.pair .str (.pair (.int .i64) (.pair (.int .i64) (.pair .str .unit)))))) (.pair (.sl (.st (.pair .str (.pair .str .unit)))) (.pair (.sl (.st (.pair .str (.pair .str .unit)))) (.pair (.int .i64) .unit))))))))) .unit))))], false, false, false, []⟩
/-- loop.example/g00172/impl.NameFault -/
noncomputable def fi40 : FI := ⟨Go.Proofs.Try.f40, [(4, [0, 22, 23], [])], [.int .i64], false, false, false, []⟩
/-- loop.example/g00172/laws.eqRepo -/
noncomputable def fi41 : FI := ⟨Go.Proofs.Try.f41, [], [.bool], false, false, false, []⟩
/-- loop.example/g00172/laws.markRepo -/
noncomputable def fi42 : FI := ⟨Go.Proofs.Try.f42, [], [.int .i64], true, false, true, [(.st (.pair .str (.pair (.int .i64) (.pair .str .unit)))), (.st (.pair .str (.pair .str .unit))), (.st (.pair .str (.pair (.int .i64) (.pair (.int .i64) (.pair .str .unit))))), (.st (.pair .str (.pair .str .unit))), (.st (.pair .str (.pair .str .unit)))]⟩
/-- loop.example/g00172/laws.heldRepo -/
noncomputable def fi43 : FI := ⟨Go.Proofs.Try.f43, [], [.int .i64], false, false, false, []⟩
/-- loop.example/g00172/laws.szObject -/
noncomputable def fi44 : FI := ⟨Go.Proofs.Try.f44, [], [.int .i64], false, false, false, []⟩
/-- loop.example/g00172/laws.szEntry -/
noncomputable def fi45 : FI := ⟨Go.Proofs.Try.f45, [], [.int .i64], false, false, false, []⟩
/-- loop.example/g00172/laws.toObject -/
noncomputable def fi46 : FI := ⟨Go.Proofs.Try.f46, [], [(.st (.pair .str (.pair (.int .i64) (.pair .str .unit))))], false, false, false, []⟩
/-- loop.example/g00172/laws.toEntry -/
noncomputable def fi47 : FI := ⟨Go.Proofs.Try.f47, [], [(.st (.pair .str (.pair (.int .i64) (.pair (.int .i64) (.pair .str .unit)))))], false, false, false, []⟩
/-- slices.Compact[[]string,string] -/
noncomputable def fi48 : FI := ⟨Go.Proofs.Try.f48, [(4, [0, 3], []), (9, [0, 3, 4, 5], [])], [(.sl .str)], true, false, true, []⟩
/-- loop.example/g00172/laws.eqObject -/
noncomputable def fi49 : FI := ⟨Go.Proofs.Try.f49, [], [.bool], false, false, false, []⟩
/-- loop.example/g00172/laws.eqEntry -/
noncomputable def fi50 : FI := ⟨Go.Proofs.Try.f50, [], [.bool], false, false, false, []⟩
/-- loop.example/g00172/spec.l6NameByte -/
noncomputable def fi51 : FI := ⟨Go.Proofs.Try.f51, [], [.bool], false, false, false, []⟩
/-- loop.example/g00172/laws.eqBranchS -/
noncomputable def fi52 : FI := ⟨Go.Proofs.Try.f52, [(4, [0, 1, 5], [])], [.bool], false, false, false, []⟩
/-- loop.example/g00172/laws.eqRuleS -/
noncomputable def fi53 : FI := ⟨Go.Proofs.Try.f53, [(4, [0, 1, 5], [])], [.bool], false, false, false, []⟩
/-- loop.example/g00172/laws.markObjectS -/
noncomputable def fi54 : FI := ⟨Go.Proofs.Try.f54, [(2, [0, 1, 5], [])], [.int .i64], true, false, true, [(.st (.pair .str (.pair (.int .i64) (.pair .str .unit))))]⟩
/-- loop.example/g00172/laws.markBranchS -/
noncomputable def fi55 : FI := ⟨Go.Proofs.Try.f55, [(2, [0, 1, 5], [])], [.int .i64], true, false, true, [(.st (.pair .str (.pair .str .unit)))]⟩
/-- loop.example/g00172/laws.markEntryS -/
noncomputable def fi56 : FI := ⟨Go.Proofs.Try.f56, [(2, [0, 1, 5], [])], [.int .i64], true, false, true, [(.st (.pair .str (.pair (.int .i64) (.pair (.int .i64) (.pair .str .unit)))))]⟩
/-- loop.example/g00172/laws.markWorkS -/
noncomputable def fi57 : FI := ⟨Go.Proofs.Try.f57, [(2, [0, 1, 5], [])], [.int .i64], true, false, true, [(.st (.pair .str (.pair .str .unit)))]⟩
/-- loop.example/g00172/laws.markRuleS -/
noncomputable def fi58 : FI := ⟨Go.Proofs.Try.f58, [(2, [0, 1, 5], [])], [.int .i64], true, false, true, [(.st (.pair .str (.pair .str .unit)))]⟩
/-- loop.example/g00172/laws.heldObjectS -/
noncomputable def fi59 : FI := ⟨Go.Proofs.Try.f59, [(2, [0, 1, 5], [])], [.int .i64], false, false, false, []⟩
/-- loop.example/g00172/laws.heldBranchS -/
noncomputable def fi60 : FI := ⟨Go.Proofs.Try.f60, [(2, [0, 1, 5], [])], [.int .i64], false, false, false, []⟩
/-- loop.example/g00172/laws.heldEntryS -/
noncomputable def fi61 : FI := ⟨Go.Proofs.Try.f61, [(2, [0, 1, 5], [])], [.int .i64], false, false, false, []⟩
/-- loop.example/g00172/laws.heldWorkS -/
noncomputable def fi62 : FI := ⟨Go.Proofs.Try.f62, [(2, [0, 1, 5], [])], [.int .i64], false, false, false, []⟩
/-- loop.example/g00172/laws.heldRuleS -/
noncomputable def fi63 : FI := ⟨Go.Proofs.Try.f63, [(2, [0, 1, 5], [])], [.int .i64], false, false, false, []⟩
/-- loop.example/g00172/laws.eqBranch -/
noncomputable def fi64 : FI := ⟨Go.Proofs.Try.f64, [], [.bool], false, false, false, []⟩
/-- loop.example/g00172/laws.eqRule -/
noncomputable def fi65 : FI := ⟨Go.Proofs.Try.f65, [], [.bool], false, false, false, []⟩
/-- loop.example/g00172/laws.markText -/
noncomputable def fi66 : FI := ⟨Go.Proofs.Try.f66, [(4, [0, 3], [])], [.str], false, false, false, []⟩
noncomputable def fiT : Tr FI := (.node 35 fi35 (.node 19 fi19 (.node 11 fi11 (.node 7 fi7 (.node 5 fi5 (.node 4 fi4 (.node 3 fi3 .leaf .leaf) .leaf) (.node 6 fi6 .leaf .leaf)) (.node 9 fi9 (.node 8 fi8 .leaf .leaf) (.node 10 fi10 .leaf .leaf))) (.node 15 fi15 (.node 13 fi13 (.node 12 fi12 .leaf .leaf) (.node 14 fi14 .leaf .leaf)) (.node 17 fi17 (.node 16 fi16 .leaf .leaf) (.node 18 fi18 .leaf .leaf)))) (.node 27 fi27 (.node 23 fi23 (.node 21 fi21 (.node 20 fi20 .leaf .leaf) (.node 22 fi22 .leaf .leaf)) (.node 25 fi25 (.node 24 fi24 .leaf .leaf) (.node 26 fi26 .leaf .leaf))) (.node 31 fi31 (.node 29 fi29 (.node 28 fi28 .leaf .leaf) (.node 30 fi30 .leaf .leaf)) (.node 33 fi33 (.node 32 fi32 .leaf .leaf) (.node 34 fi34 .leaf .leaf))))) (.node 51 fi51 (.node 43 fi43 (.node 39 fi39 (.node 37 fi37 (.node 36 fi36 .leaf .leaf) (.node 38 fi38 .leaf .leaf)) (.node 41 fi41 (.node 40 fi40 .leaf .leaf) (.node 42 fi42 .leaf .leaf))) (.node 47 fi47 (.node 45 fi45 (.node 44 fi44 .leaf .leaf) (.node 46 fi46 .leaf .leaf)) (.node 49 fi49 (.node 48 fi48 .leaf .leaf) (.node 50 fi50 .leaf .leaf)))) (.node 59 fi59 (.node 55 fi55 (.node 53 fi53 (.node 52 fi52 .leaf .leaf) (.node 54 fi54 .leaf .leaf)) (.node 57 fi57 (.node 56 fi56 .leaf .leaf) (.node 58 fi58 .leaf .leaf))) (.node 63 fi63 (.node 61 fi61 (.node 60 fi60 .leaf .leaf) (.node 62 fi62 .leaf .leaf)) (.node 65 fi65 (.node 64 fi64 .leaf .leaf) (.node 66 fi66 .leaf .leaf))))))
noncomputable def env : Env := { fi := fiT.find, ti := fun t => (tiT.find t).getD ⟨.other, false, 1000000000, 0, .unit, [], []⟩, glob := fun _ => none }
end Go.Proofs.Ytjklgmflillagaa.Ev
