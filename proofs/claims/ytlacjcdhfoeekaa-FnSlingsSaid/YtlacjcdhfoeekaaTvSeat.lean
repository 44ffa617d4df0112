import Derived.Test.YtlacjcdhfoeekaaTvM
import Derived.Test.YtlacjcdhfoeekaaProg
import Derived.KernelRfl
namespace Go.Proofs.Ytlacjcdhfoeekaa
open Go Go.TV
/-- How calls pass their arguments. -/
def conv : FuncId → Conv := fun f => if f ∈ ([] : List Nat) then .own else if f ∈ ([57, 84, 56] : List Nat) then .inl else .imm
theorem cv3 : conv 3 = .imm := id rfl
theorem cv4 : conv 4 = .imm := id rfl
theorem cv5 : conv 5 = .imm := id rfl
theorem cv6 : conv 6 = .imm := id rfl
theorem cv7 : conv 7 = .imm := id rfl
theorem cv8 : conv 8 = .imm := id rfl
theorem cv9 : conv 9 = .imm := id rfl
theorem cv10 : conv 10 = .imm := id rfl
theorem cv11 : conv 11 = .imm := id rfl
theorem cv12 : conv 12 = .imm := id rfl
theorem cv13 : conv 13 = .imm := id rfl
theorem cv14 : conv 14 = .imm := id rfl
theorem cv15 : conv 15 = .imm := id rfl
theorem cv16 : conv 16 = .imm := id rfl
theorem cv17 : conv 17 = .imm := id rfl
theorem cv18 : conv 18 = .imm := id rfl
theorem cv19 : conv 19 = .imm := id rfl
theorem cv20 : conv 20 = .imm := id rfl
theorem cv21 : conv 21 = .imm := id rfl
theorem cv22 : conv 22 = .imm := id rfl
theorem cv23 : conv 23 = .imm := id rfl
theorem cv24 : conv 24 = .imm := id rfl
theorem cv25 : conv 25 = .imm := id rfl
theorem cv26 : conv 26 = .imm := id rfl
theorem cv27 : conv 27 = .imm := id rfl
theorem cv28 : conv 28 = .imm := id rfl
theorem cv29 : conv 29 = .imm := id rfl
theorem cv30 : conv 30 = .imm := id rfl
theorem cv31 : conv 31 = .imm := id rfl
theorem cv32 : conv 32 = .imm := id rfl
theorem cv33 : conv 33 = .imm := id rfl
theorem cv34 : conv 34 = .imm := id rfl
theorem cv35 : conv 35 = .imm := id rfl
theorem cv36 : conv 36 = .imm := id rfl
theorem cv37 : conv 37 = .imm := id rfl
theorem cv38 : conv 38 = .imm := id rfl
theorem cv39 : conv 39 = .imm := id rfl
theorem cv40 : conv 40 = .imm := id rfl
theorem cv41 : conv 41 = .imm := id rfl
theorem cv42 : conv 42 = .imm := id rfl
theorem cv43 : conv 43 = .imm := id rfl
theorem cv44 : conv 44 = .imm := id rfl
theorem cv45 : conv 45 = .imm := id rfl
theorem cv46 : conv 46 = .imm := id rfl
theorem cv47 : conv 47 = .imm := id rfl
theorem cv48 : conv 48 = .imm := id rfl
theorem cv49 : conv 49 = .imm := id rfl
theorem cv50 : conv 50 = .imm := id rfl
theorem cv51 : conv 51 = .imm := id rfl
theorem cv52 : conv 52 = .imm := id rfl
theorem cv53 : conv 53 = .imm := id rfl
theorem cv54 : conv 54 = .imm := id rfl
theorem cv55 : conv 55 = .imm := id rfl
theorem cv56 : conv 56 = .inl := id rfl
theorem cv57 : conv 57 = .inl := id rfl
theorem cv58 : conv 58 = .imm := id rfl
theorem cv59 : conv 59 = .imm := id rfl
theorem cv60 : conv 60 = .imm := id rfl
theorem cv61 : conv 61 = .imm := id rfl
theorem cv62 : conv 62 = .imm := id rfl
theorem cv63 : conv 63 = .imm := id rfl
theorem cv64 : conv 64 = .imm := id rfl
theorem cv65 : conv 65 = .imm := id rfl
theorem cv66 : conv 66 = .imm := id rfl
theorem cv67 : conv 67 = .imm := id rfl
theorem cv68 : conv 68 = .imm := id rfl
theorem cv69 : conv 69 = .imm := id rfl
theorem cv70 : conv 70 = .imm := id rfl
theorem cv71 : conv 71 = .imm := id rfl
theorem cv72 : conv 72 = .imm := id rfl
theorem cv73 : conv 73 = .imm := id rfl
theorem cv74 : conv 74 = .imm := id rfl
theorem cv75 : conv 75 = .imm := id rfl
theorem cv76 : conv 76 = .imm := id rfl
theorem cv77 : conv 77 = .imm := id rfl
theorem cv78 : conv 78 = .imm := id rfl
theorem cv79 : conv 79 = .imm := id rfl
theorem cv80 : conv 80 = .imm := id rfl
theorem cv81 : conv 81 = .imm := id rfl
theorem cv82 : conv 82 = .imm := id rfl
theorem cv83 : conv 83 = .imm := id rfl
theorem cv84 : conv 84 = .inl := id rfl
theorem cv85 : conv 85 = .imm := id rfl
theorem cv86 : conv 86 = .imm := id rfl
theorem cv87 : conv 87 = .imm := id rfl
theorem cv88 : conv 88 = .imm := id rfl
theorem cv89 : conv 89 = .imm := id rfl
theorem cv90 : conv 90 = .imm := id rfl
theorem cv91 : conv 91 = .imm := id rfl
theorem cv92 : conv 92 = .imm := id rfl
theorem cv93 : conv 93 = .imm := id rfl
theorem cv94 : conv 94 = .imm := id rfl
theorem cv95 : conv 95 = .imm := id rfl
theorem cv96 : conv 96 = .imm := id rfl
theorem cv97 : conv 97 = .imm := id rfl
theorem cv98 : conv 98 = .imm := id rfl
theorem cv99 : conv 99 = .imm := id rfl
theorem cv100 : conv 100 = .imm := id rfl
theorem cv101 : conv 101 = .imm := id rfl
theorem cv102 : conv 102 = .imm := id rfl
theorem cv103 : conv 103 = .imm := id rfl
theorem cv104 : conv 104 = .imm := id rfl
theorem cv105 : conv 105 = .imm := id rfl
theorem cv106 : conv 106 = .imm := id rfl
theorem cv107 : conv 107 = .imm := id rfl
theorem cv108 : conv 108 = .imm := id rfl
theorem cv109 : conv 109 = .imm := id rfl
theorem cv110 : conv 110 = .imm := id rfl
theorem cv111 : conv 111 = .imm := id rfl
theorem cv112 : conv 112 = .imm := id rfl
theorem cv113 : conv 113 = .imm := id rfl
theorem cv114 : conv 114 = .imm := id rfl
theorem cv115 : conv 115 = .imm := id rfl
theorem cv116 : conv 116 = .imm := id rfl
theorem cv117 : conv 117 = .imm := id rfl
theorem cv118 : conv 118 = .imm := id rfl
theorem cv119 : conv 119 = .imm := id rfl
theorem cv120 : conv 120 = .imm := id rfl
theorem cv121 : conv 121 = .imm := id rfl
theorem cv122 : conv 122 = .imm := id rfl
theorem cv123 : conv 123 = .imm := id rfl
theorem cv124 : conv 124 = .imm := id rfl
theorem cv125 : conv 125 = .imm := id rfl
theorem cv126 : conv 126 = .imm := id rfl
theorem cv127 : conv 127 = .imm := id rfl
theorem cv128 : conv 128 = .imm := id rfl
theorem cv129 : conv 129 = .imm := id rfl
theorem cv130 : conv 130 = .imm := id rfl
theorem cv131 : conv 131 = .imm := id rfl
theorem cv132 : conv 132 = .imm := id rfl
theorem cv133 : conv 133 = .imm := id rfl
theorem cv134 : conv 134 = .imm := id rfl
theorem cv135 : conv 135 = .imm := id rfl
theorem cv136 : conv 136 = .imm := id rfl
theorem cv137 : conv 137 = .imm := id rfl
theorem cv138 : conv 138 = .imm := id rfl
theorem cv139 : conv 139 = .imm := id rfl
theorem cv140 : conv 140 = .imm := id rfl
theorem cv141 : conv 141 = .imm := id rfl
theorem cv142 : conv 142 = .imm := id rfl
theorem cv143 : conv 143 = .imm := id rfl
theorem cv144 : conv 144 = .imm := id rfl
theorem cv145 : conv 145 = .imm := id rfl
theorem cv146 : conv 146 = .imm := id rfl
theorem cv147 : conv 147 = .imm := id rfl
theorem cv148 : conv 148 = .imm := id rfl
theorem cv149 : conv 149 = .imm := id rfl
theorem cv150 : conv 150 = .imm := id rfl
theorem cv151 : conv 151 = .imm := id rfl
theorem cv152 : conv 152 = .imm := id rfl
theorem cv153 : conv 153 = .imm := id rfl
theorem cv154 : conv 154 = .imm := id rfl
theorem cv155 : conv 155 = .imm := id rfl
theorem cv156 : conv 156 = .imm := id rfl
theorem cv157 : conv 157 = .imm := id rfl
theorem cv158 : conv 158 = .imm := id rfl
theorem cv159 : conv 159 = .imm := id rfl
theorem cv160 : conv 160 = .imm := id rfl
theorem cv161 : conv 161 = .imm := id rfl
theorem cv162 : conv 162 = .imm := id rfl
theorem cv163 : conv 163 = .imm := id rfl
theorem cv164 : conv 164 = .imm := id rfl
theorem cv165 : conv 165 = .imm := id rfl
theorem cv166 : conv 166 = .imm := id rfl
theorem cv167 : conv 167 = .imm := id rfl
theorem cv168 : conv 168 = .imm := id rfl
theorem cv169 : conv 169 = .imm := id rfl
theorem cv170 : conv 170 = .imm := id rfl
theorem cv171 : conv 171 = .imm := id rfl
theorem cv172 : conv 172 = .imm := id rfl
theorem cv173 : conv 173 = .imm := id rfl
theorem cv174 : conv 174 = .imm := id rfl
theorem cv175 : conv 175 = .imm := id rfl
theorem cv176 : conv 176 = .imm := id rfl
theorem cv177 : conv 177 = .imm := id rfl
theorem cv178 : conv 178 = .imm := id rfl
theorem cv179 : conv 179 = .imm := id rfl
theorem cv180 : conv 180 = .imm := id rfl
theorem cv181 : conv 181 = .imm := id rfl
theorem cv182 : conv 182 = .imm := id rfl
theorem cv183 : conv 183 = .imm := id rfl
theorem cv184 : conv 184 = .imm := id rfl
theorem cv185 : conv 185 = .imm := id rfl
theorem cv186 : conv 186 = .imm := id rfl
theorem cv187 : conv 187 = .imm := id rfl
theorem cv188 : conv 188 = .imm := id rfl
theorem cv189 : conv 189 = .imm := id rfl
theorem cv190 : conv 190 = .imm := id rfl
theorem cv191 : conv 191 = .imm := id rfl
theorem cv192 : conv 192 = .imm := id rfl
theorem cv193 : conv 193 = .imm := id rfl
theorem cv194 : conv 194 = .imm := id rfl
theorem cv195 : conv 195 = .imm := id rfl
theorem cv196 : conv 196 = .imm := id rfl
theorem cv197 : conv 197 = .imm := id rfl
theorem cv198 : conv 198 = .imm := id rfl
theorem cv214 : conv 214 = .imm := id rfl
theorem cv215 : conv 215 = .imm := id rfl
theorem cv216 : conv 216 = .imm := id rfl
theorem cv217 : conv 217 = .imm := id rfl
attribute [go_sem] cv3 cv4 cv5 cv6 cv7 cv8 cv9 cv10 cv11 cv12 cv13 cv14 cv15 cv16 cv17 cv18 cv19 cv20 cv21 cv22 cv23 cv24 cv25 cv26 cv27 cv28 cv29 cv30 cv31 cv32 cv33 cv34 cv35 cv36 cv37 cv38 cv39 cv40 cv41 cv42 cv43 cv44 cv45 cv46 cv47 cv48 cv49 cv50 cv51 cv52 cv53 cv54 cv55 cv56 cv57 cv58 cv59 cv60 cv61 cv62 cv63 cv64 cv65 cv66 cv67 cv68 cv69 cv70 cv71 cv72 cv73 cv74 cv75 cv76 cv77 cv78 cv79 cv80 cv81 cv82 cv83 cv84 cv85 cv86 cv87 cv88 cv89 cv90 cv91 cv92 cv93 cv94 cv95 cv96 cv97 cv98 cv99 cv100 cv101 cv102 cv103 cv104 cv105 cv106 cv107 cv108 cv109 cv110 cv111 cv112 cv113 cv114 cv115 cv116 cv117 cv118 cv119 cv120 cv121 cv122 cv123 cv124 cv125 cv126 cv127 cv128 cv129 cv130 cv131 cv132 cv133 cv134 cv135 cv136 cv137 cv138 cv139 cv140 cv141 cv142 cv143 cv144 cv145 cv146 cv147 cv148 cv149 cv150 cv151 cv152 cv153 cv154 cv155 cv156 cv157 cv158 cv159 cv160 cv161 cv162 cv163 cv164 cv165 cv166 cv167 cv168 cv169 cv170 cv171 cv172 cv173 cv174 cv175 cv176 cv177 cv178 cv179 cv180 cv181 cv182 cv183 cv184 cv185 cv186 cv187 cv188 cv189 cv190 cv191 cv192 cv193 cv194 cv195 cv196 cv197 cv198 cv214 cv215 cv216 cv217
theorem ty2 : tyI Try.prog 2 = ⟨true, false, 1, [.sc (.int .i64 0)], false, false, false, 0, 0, [], false, [], [], false, false⟩ := by kernel_rfl
theorem ty3 : tyI Try.prog 3 = ⟨true, false, 1, [.sc (.int .i64 0)], false, false, false, 0, 0, [], false, [], [], false, false⟩ := by kernel_rfl
theorem ty4 : tyI Try.prog 4 = ⟨true, false, 1, [.sc (.bool false)], false, false, false, 0, 0, [], false, [], [], false, false⟩ := by kernel_rfl
theorem ty5 : tyI Try.prog 5 = ⟨true, false, 1, [.sc (.int .u8 0)], false, false, false, 0, 0, [], false, [], [], false, false⟩ := by kernel_rfl
theorem ty7 : tyI Try.prog 7 = ⟨true, true, 4, [.sc (.int .i64 0), .sc (.int .i64 0), .sc (.bool false), .sc (.int .u8 0)], false, false, false, 0, 0, [], false, [(0, 1, some false), (1, 1, some false), (2, 1, some false), (3, 1, some false)], [(0, 1), (1, 1), (2, 1), (3, 1)], true, false⟩ := by kernel_rfl
theorem ty9 : tyI Try.prog 9 = ⟨true, false, 1, [.sc (.string ByteArray.empty)], false, true, false, 0, 0, [], false, [], [], false, false⟩ := by kernel_rfl
theorem ty12 : tyI Try.prog 12 = ⟨true, false, 1, [.sc (.int .u64 0)], false, false, false, 0, 0, [], false, [], [], false, false⟩ := by kernel_rfl
theorem ty13 : tyI Try.prog 13 = ⟨true, true, 2, [.sc (.string ByteArray.empty), .sc (.int .u64 0)], false, false, false, 0, 0, [], false, [(0, 1, some false), (1, 1, some false)], [(0, 1), (1, 1)], true, false⟩ := by kernel_rfl
theorem ty21 : tyI Try.prog 21 = ⟨true, false, 1, [.sc (.int .i32 0)], false, false, false, 0, 0, [], false, [], [], false, false⟩ := by kernel_rfl
theorem ty24 : tyI Try.prog 24 = ⟨true, false, 1, [.nil], true, false, false, 1, 1, [.sc (.int .u8 0)], true, [], [], false, true⟩ := by kernel_rfl
theorem ty26 : tyI Try.prog 26 = ⟨true, false, 1, [.nil], true, false, false, 1, 8, [.sc (.int .i64 0)], true, [], [], false, false⟩ := by kernel_rfl
theorem ty27 : tyI Try.prog 27 = ⟨true, true, 2, [.sc (.bool false), .nil], false, false, false, 0, 0, [], false, [(0, 1, some false), (1, 1, some false)], [(0, 1), (1, 1)], true, false⟩ := by kernel_rfl
theorem ty28 : tyI Try.prog 28 = ⟨true, true, 2, [.sc (.bool false), .nil], false, false, false, 0, 0, [], false, [(0, 1, some false), (1, 1, some false)], [(0, 1), (1, 1)], true, false⟩ := by kernel_rfl
theorem ty29 : tyI Try.prog 29 = ⟨true, true, 3, [.sc (.bool false), .nil, .nil], false, false, false, 0, 0, [], false, [(0, 2, some true), (2, 1, some false)], [(0, 2), (2, 1)], true, false⟩ := by kernel_rfl
theorem ty30 : tyI Try.prog 30 = ⟨true, true, 3, [.sc (.bool false), .nil, .nil], false, false, false, 0, 0, [], false, [(0, 2, some true), (2, 1, some false)], [(0, 2), (2, 1)], true, false⟩ := by kernel_rfl
theorem ty37 : tyI Try.prog 37 = ⟨true, false, 1, [.nil], true, false, false, 5, 112, [.sc (.string ByteArray.empty), .nil, .nil, .nil, .nil], true, [], [], false, false⟩ := by kernel_rfl
theorem ty38 : tyI Try.prog 38 = ⟨true, false, 1, [.nil], true, false, false, 2, 16, [.sc (.int .i64 0), .sc (.int .i64 0)], true, [], [], false, false⟩ := by kernel_rfl
theorem ty39 : tyI Try.prog 39 = ⟨true, true, 3, [.nil, .nil, .sc (.bool false)], false, false, false, 0, 0, [], false, [(0, 1, some false), (1, 1, some false), (2, 1, some false)], [(0, 1), (1, 1), (2, 1)], true, false⟩ := by kernel_rfl
theorem ty40 : tyI Try.prog 40 = ⟨true, true, 3, [.nil, .nil, .sc (.bool false)], false, false, false, 0, 0, [], false, [(0, 1, some false), (1, 1, some false), (2, 1, some false)], [(0, 1), (1, 1), (2, 1)], true, false⟩ := by kernel_rfl
theorem ty43 : tyI Try.prog 43 = ⟨true, false, 1, [.nil], true, false, false, 5, 112, [.sc (.string ByteArray.empty), .nil, .nil, .nil, .nil], true, [], [], false, false⟩ := by kernel_rfl
theorem ty44 : tyI Try.prog 44 = ⟨true, false, 1, [.nil], true, false, false, 2, 16, [.sc (.int .i64 0), .sc (.int .i64 0)], true, [], [], false, false⟩ := by kernel_rfl
theorem ty45 : tyI Try.prog 45 = ⟨true, true, 3, [.nil, .nil, .sc (.bool false)], false, false, false, 0, 0, [], false, [(0, 1, some false), (1, 1, some false), (2, 1, some false)], [(0, 1), (1, 1), (2, 1)], true, false⟩ := by kernel_rfl
theorem ty46 : tyI Try.prog 46 = ⟨true, true, 3, [.nil, .nil, .sc (.bool false)], false, false, false, 0, 0, [], false, [(0, 1, some false), (1, 1, some false), (2, 1, some false)], [(0, 1), (1, 1), (2, 1)], true, false⟩ := by kernel_rfl
theorem ty50 : tyI Try.prog 50 = ⟨true, false, 1, [.nil], true, false, false, 4, 40, [.sc (.string ByteArray.empty), .sc (.int .i64 0), .sc (.int .i64 0), .sc (.bool false)], true, [], [], false, false⟩ := by kernel_rfl
theorem ty51 : tyI Try.prog 51 = ⟨true, false, 1, [.nil], true, false, false, 3, 24, [.sc (.int .i64 0), .sc (.int .i64 0), .sc (.int .i64 0)], true, [], [], false, false⟩ := by kernel_rfl
theorem ty52 : tyI Try.prog 52 = ⟨true, true, 2, [.nil, .nil], false, false, false, 0, 0, [], false, [(0, 1, some false), (1, 1, some false)], [(0, 1), (1, 1)], true, false⟩ := by kernel_rfl
theorem ty53 : tyI Try.prog 53 = ⟨true, true, 2, [.nil, .nil], false, false, false, 0, 0, [], false, [(0, 1, some false), (1, 1, some false)], [(0, 1), (1, 1)], true, false⟩ := by kernel_rfl
theorem ty54 : tyI Try.prog 54 = ⟨true, true, 5, [.sc (.string ByteArray.empty), .nil, .nil, .nil, .nil], false, false, false, 0, 0, [], false, [(0, 1, some false), (1, 2, some true), (3, 1, some false), (4, 1, some false)], [(0, 1), (1, 2), (3, 1), (4, 1)], true, false⟩ := by kernel_rfl
theorem ty55 : tyI Try.prog 55 = ⟨true, true, 5, [.sc (.string ByteArray.empty), .nil, .nil, .nil, .nil], false, false, false, 0, 0, [], false, [(0, 1, some false), (1, 2, some true), (3, 1, some false), (4, 1, some false)], [(0, 1), (1, 2), (3, 1), (4, 1)], true, false⟩ := by kernel_rfl
theorem ty58 : tyI Try.prog 58 = ⟨true, false, 1, [.nil], true, false, false, 4, 40, [.sc (.string ByteArray.empty), .sc (.int .i64 0), .sc (.int .i64 0), .sc (.bool false)], true, [], [], false, false⟩ := by kernel_rfl
theorem ty59 : tyI Try.prog 59 = ⟨true, false, 1, [.nil], true, false, false, 3, 24, [.sc (.int .i64 0), .sc (.int .i64 0), .sc (.int .i64 0)], true, [], [], false, false⟩ := by kernel_rfl
theorem ty60 : tyI Try.prog 60 = ⟨true, true, 2, [.nil, .nil], false, false, false, 0, 0, [], false, [(0, 1, some false), (1, 1, some false)], [(0, 1), (1, 1)], true, false⟩ := by kernel_rfl
theorem ty61 : tyI Try.prog 61 = ⟨true, true, 2, [.nil, .nil], false, false, false, 0, 0, [], false, [(0, 1, some false), (1, 1, some false)], [(0, 1), (1, 1)], true, false⟩ := by kernel_rfl
theorem ty62 : tyI Try.prog 62 = ⟨true, true, 5, [.sc (.string ByteArray.empty), .nil, .nil, .nil, .nil], false, false, false, 0, 0, [], false, [(0, 1, some false), (1, 2, some true), (3, 1, some false), (4, 1, some false)], [(0, 1), (1, 2), (3, 1), (4, 1)], true, false⟩ := by kernel_rfl
theorem ty63 : tyI Try.prog 63 = ⟨true, true, 5, [.sc (.string ByteArray.empty), .nil, .nil, .nil, .nil], false, false, false, 0, 0, [], false, [(0, 1, some false), (1, 2, some true), (3, 1, some false), (4, 1, some false)], [(0, 1), (1, 2), (3, 1), (4, 1)], true, false⟩ := by kernel_rfl
theorem ty67 : tyI Try.prog 67 = ⟨true, true, 5, [.sc (.int .i64 0), .sc (.int .i64 0), .sc (.int .i64 0), .sc (.int .i64 0), .sc (.int .i64 0)], false, false, false, 0, 0, [], false, [(0, 1, some false), (1, 1, some false), (2, 1, some false), (3, 1, some false), (4, 1, some false)], [(0, 1), (1, 1), (2, 1), (3, 1), (4, 1)], true, false⟩ := by kernel_rfl
theorem ty68 : tyI Try.prog 68 = ⟨true, true, 5, [.sc (.int .i64 0), .sc (.int .i64 0), .sc (.int .i64 0), .sc (.int .i64 0), .sc (.int .i64 0)], false, false, false, 0, 0, [], false, [(0, 1, some false), (1, 1, some false), (2, 1, some false), (3, 1, some false), (4, 1, some false)], [(0, 1), (1, 1), (2, 1), (3, 1), (4, 1)], true, false⟩ := by kernel_rfl
theorem ty80 : tyI Try.prog 80 = ⟨true, true, 5, [.sc (.int .i64 0), .sc (.int .i64 0), .sc (.int .i64 0), .sc (.int .i64 0), .sc (.int .i64 0)], false, false, false, 0, 0, [], false, [(0, 1, some false), (1, 1, some false), (2, 1, some false), (3, 1, some false), (4, 1, some false)], [(0, 1), (1, 1), (2, 1), (3, 1), (4, 1)], true, false⟩ := by kernel_rfl
theorem ty90 : tyI Try.prog 90 = ⟨true, false, 1, [.sc (.pointer none)], false, false, true, 0, 0, [], false, [], [], false, false⟩ := by kernel_rfl
theorem ty94 : tyI Try.prog 94 = ⟨true, false, 1, [.sc (.pointer none)], false, false, true, 0, 0, [], false, [], [], false, false⟩ := by kernel_rfl
theorem ty112 : tyI Try.prog 112 = ⟨true, false, 1, [.sc (.pointer none)], false, false, true, 0, 0, [], false, [], [], false, false⟩ := by kernel_rfl
theorem ty120 : tyI Try.prog 120 = ⟨true, true, 2, [.sc (.int .i64 0), .sc (.int .i64 0)], false, false, false, 0, 0, [], false, [(0, 1, some false), (1, 1, some false)], [(0, 1), (1, 1)], true, false⟩ := by kernel_rfl
theorem ty121 : tyI Try.prog 121 = ⟨true, true, 2, [.sc (.int .i64 0), .sc (.int .i64 0)], false, false, false, 0, 0, [], false, [(0, 1, some false), (1, 1, some false)], [(0, 1), (1, 1)], true, false⟩ := by kernel_rfl
theorem ty127 : tyI Try.prog 127 = ⟨true, true, 3, [.nil, .sc (.int .i64 0), .sc (.int .i64 0)], false, false, false, 0, 0, [], false, [(0, 1, some false), (1, 1, some false), (2, 1, some false)], [(0, 1), (1, 1), (2, 1)], true, false⟩ := by kernel_rfl
theorem ty128 : tyI Try.prog 128 = ⟨true, true, 3, [.nil, .sc (.int .i64 0), .sc (.int .i64 0)], false, false, false, 0, 0, [], false, [(0, 1, some false), (1, 1, some false), (2, 1, some false)], [(0, 1), (1, 1), (2, 1)], true, false⟩ := by kernel_rfl
theorem ty129 : tyI Try.prog 129 = ⟨true, false, 1, [.sc (.int .u64 0)], false, false, false, 0, 0, [], false, [], [], false, false⟩ := by kernel_rfl
theorem ty133 : tyI Try.prog 133 = ⟨true, true, 3, [.sc (.bool false), .nil, .nil], false, false, false, 0, 0, [], false, [(0, 2, some true), (2, 1, some false)], [(0, 2), (2, 1)], true, false⟩ := by kernel_rfl
theorem ty134 : tyI Try.prog 134 = ⟨true, true, 3, [.sc (.bool false), .nil, .nil], false, false, false, 0, 0, [], false, [(0, 2, some true), (2, 1, some false)], [(0, 2), (2, 1)], true, false⟩ := by kernel_rfl
theorem ty139 : tyI Try.prog 139 = ⟨true, true, 2, [.sc (.int .i64 0), .sc (.int .i64 0)], false, false, false, 0, 0, [], false, [(0, 1, some false), (1, 1, some false)], [(0, 1), (1, 1)], true, false⟩ := by kernel_rfl
theorem ty153 : tyI Try.prog 153 = ⟨true, false, 1, [.sc (.pointer none)], false, false, true, 0, 0, [], false, [], [], false, false⟩ := by kernel_rfl
theorem ty154 : tyI Try.prog 154 = ⟨true, false, 1, [.nil], true, false, false, 1, 1, [.sc (.bool false)], true, [], [], false, false⟩ := by kernel_rfl
theorem ty166 : tyI Try.prog 166 = ⟨true, false, 1, [.sc (.int .u64 0)], false, false, false, 0, 0, [], false, [], [], false, false⟩ := by kernel_rfl
theorem ty168 : tyI Try.prog 168 = ⟨true, true, 4, [.sc (.string ByteArray.empty), .sc (.int .i64 0), .sc (.int .i64 0), .sc (.bool false)], false, false, false, 0, 0, [], false, [(0, 1, some false), (1, 1, some false), (2, 1, some false), (3, 1, some false)], [(0, 1), (1, 1), (2, 1), (3, 1)], true, false⟩ := by kernel_rfl
theorem ty169 : tyI Try.prog 169 = ⟨true, true, 4, [.sc (.string ByteArray.empty), .sc (.int .i64 0), .sc (.int .i64 0), .sc (.bool false)], false, false, false, 0, 0, [], false, [(0, 1, some false), (1, 1, some false), (2, 1, some false), (3, 1, some false)], [(0, 1), (1, 1), (2, 1), (3, 1)], true, false⟩ := by kernel_rfl
theorem ty170 : tyI Try.prog 170 = ⟨true, true, 4, [.sc (.string ByteArray.empty), .sc (.int .i64 0), .sc (.int .i64 0), .sc (.bool false)], false, false, false, 0, 0, [], false, [(0, 1, some false), (1, 1, some false), (2, 1, some false), (3, 1, some false)], [(0, 1), (1, 1), (2, 1), (3, 1)], true, false⟩ := by kernel_rfl
theorem ty173 : tyI Try.prog 173 = ⟨true, true, 3, [.sc (.int .i64 0), .sc (.int .i64 0), .sc (.int .i64 0)], false, false, false, 0, 0, [], false, [(0, 1, some false), (1, 1, some false), (2, 1, some false)], [(0, 1), (1, 1), (2, 1)], true, false⟩ := by kernel_rfl
theorem ty174 : tyI Try.prog 174 = ⟨true, true, 3, [.sc (.int .i64 0), .sc (.int .i64 0), .sc (.int .i64 0)], false, false, false, 0, 0, [], false, [(0, 1, some false), (1, 1, some false), (2, 1, some false)], [(0, 1), (1, 1), (2, 1)], true, false⟩ := by kernel_rfl
theorem ty177 : tyI Try.prog 177 = ⟨true, true, 3, [.sc (.int .i64 0), .sc (.int .i64 0), .sc (.int .i64 0)], false, false, false, 0, 0, [], false, [(0, 1, some false), (1, 1, some false), (2, 1, some false)], [(0, 1), (1, 1), (2, 1)], true, false⟩ := by kernel_rfl
theorem ty198 : tyI Try.prog 198 = ⟨true, true, 4, [.sc (.pointer none), .sc (.pointer none), .sc (.pointer none), .sc (.string ByteArray.empty)], false, false, false, 0, 0, [], false, [(0, 1, some false), (1, 1, some false), (2, 1, some false), (3, 1, some false)], [(0, 1), (1, 1), (2, 1), (3, 1)], true, false⟩ := by kernel_rfl
theorem ty200 : tyI Try.prog 200 = ⟨true, true, 0, [], false, false, false, 0, 0, [], false, [], [], false, false⟩ := by kernel_rfl
theorem ty201 : tyI Try.prog 201 = ⟨true, true, 0, [], false, false, false, 0, 0, [], false, [(0, 0, some true)], [(0, 0)], true, false⟩ := by kernel_rfl
theorem ty203 : tyI Try.prog 203 = ⟨true, false, 1, [.sc (.int .u32 0)], false, false, false, 0, 0, [], false, [], [], false, false⟩ := by kernel_rfl
theorem ty207 : tyI Try.prog 207 = ⟨true, false, 1, [.sc (.pointer none)], false, false, true, 0, 0, [], false, [], [], false, false⟩ := by kernel_rfl
attribute [go_sem] ty2 ty3 ty4 ty5 ty7 ty9 ty12 ty13 ty21 ty24 ty26 ty27 ty28 ty29 ty30 ty37 ty38 ty39 ty40 ty43 ty44 ty45 ty46 ty50 ty51 ty52 ty53 ty54 ty55 ty58 ty59 ty60 ty61 ty62 ty63 ty67 ty68 ty80 ty90 ty94 ty112 ty120 ty121 ty127 ty128 ty129 ty133 ty134 ty139 ty153 ty154 ty166 ty168 ty169 ty170 ty173 ty174 ty177 ty198 ty200 ty201 ty203 ty207
end Go.Proofs.Ytlacjcdhfoeekaa
