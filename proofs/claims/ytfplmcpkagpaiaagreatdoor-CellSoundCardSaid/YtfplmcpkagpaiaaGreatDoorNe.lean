/-
 Facts of the types. Printed by program.
 The machine's settings over this seat's program. Printed by program.
-/
import Derived.Test.YtfplmcpkagpaiaaGreatDoorProg
import Derived.Test.YtfplmcpkagpaiaaGreatDoorMe
import Derived.KernelRfl
import Derived.Test.YtfplmcpkagpaiaaGreatDoorNs
set_option maxRecDepth 100000
set_option linter.unusedSimpArgs false
set_option linter.unusedVariables false
section
namespace Go.Proofs.YtfplmcpkagpaiaaGreatDoor
open Go Go.Sim
attribute [simp] Tryz.underlying0
attribute [simp] Tryz.underlying1
attribute [simp] Tryz.underlying2
@[simp] theorem agg_3 : isAggV Tryz.prog 3 = some false := by kernel_rfl
@[simp] theorem size_3 : sizeV Tryz.prog 3 = some 1 := by kernel_rfl
@[simp] theorem bytes_3 : bytesV Tryz.prog 3 = some 8 := by kernel_rfl
@[simp] theorem zero_3 : zeroV Tryz.prog 3 = some (.int .i64 0) := by kernel_rfl
attribute [simp] Tryz.underlying3
@[simp] theorem agg_4 : isAggV Tryz.prog 4 = some false := by kernel_rfl
@[simp] theorem size_4 : sizeV Tryz.prog 4 = some 1 := by kernel_rfl
attribute [simp] Tryz.underlying4
@[simp] theorem agg_5 : isAggV Tryz.prog 5 = some false := by kernel_rfl
@[simp] theorem size_5 : sizeV Tryz.prog 5 = some 1 := by kernel_rfl
@[simp] theorem bytes_5 : bytesV Tryz.prog 5 = some 1 := by kernel_rfl
@[simp] theorem zero_5 : zeroV Tryz.prog 5 = some (.int .u8 0) := by kernel_rfl
attribute [simp] Tryz.underlying5
attribute [simp] Tryz.underlying6
attribute [simp] Tryz.underlying7
attribute [simp] Tryz.underlying8
@[simp] theorem agg_9 : isAggV Tryz.prog 9 = some false := by kernel_rfl
@[simp] theorem size_9 : sizeV Tryz.prog 9 = some 1 := by kernel_rfl
attribute [simp] Tryz.underlying9
attribute [simp] Tryz.underlying10
attribute [simp] Tryz.underlying11
attribute [simp] Tryz.underlying12
attribute [simp] Tryz.underlying13
attribute [simp] Tryz.underlying14
attribute [simp] Tryz.underlying15
attribute [simp] Tryz.underlying16
attribute [simp] Tryz.underlying17
attribute [simp] Tryz.underlying18
attribute [simp] Tryz.underlying19
attribute [simp] Tryz.underlying20
attribute [simp] Tryz.underlying21
@[simp] theorem agg_22 : isAggV Tryz.prog 22 = some false := by kernel_rfl
@[simp] theorem size_22 : sizeV Tryz.prog 22 = some 1 := by kernel_rfl
@[simp] theorem zero_22 : zeroV Tryz.prog 22 = some (.nilslice) := by kernel_rfl
attribute [simp] Tryz.underlying22
@[simp] theorem agg_23 : isAggV Tryz.prog 23 = some false := by kernel_rfl
@[simp] theorem size_23 : sizeV Tryz.prog 23 = some 1 := by kernel_rfl
@[simp] theorem zero_23 : zeroV Tryz.prog 23 = some (.nilslice) := by kernel_rfl
attribute [simp] Tryz.underlying23
@[simp] theorem agg_24 : isAggV Tryz.prog 24 = some false := by kernel_rfl
@[simp] theorem size_24 : sizeV Tryz.prog 24 = some 1 := by kernel_rfl
@[simp] theorem zero_24 : zeroV Tryz.prog 24 = some (.nilslice) := by kernel_rfl
attribute [simp] Tryz.underlying24
@[simp] theorem agg_25 : isAggV Tryz.prog 25 = some false := by kernel_rfl
@[simp] theorem size_25 : sizeV Tryz.prog 25 = some 1 := by kernel_rfl
@[simp] theorem bytes_25 : bytesV Tryz.prog 25 = some 4 := by kernel_rfl
@[simp] theorem zero_25 : zeroV Tryz.prog 25 = some (.int .u32 0) := by kernel_rfl
attribute [simp] Tryz.underlying25
@[simp] theorem agg_26 : isAggV Tryz.prog 26 = some false := by kernel_rfl
@[simp] theorem size_26 : sizeV Tryz.prog 26 = some 1 := by kernel_rfl
attribute [simp] Tryz.underlying26
attribute [simp] Tryz.underlying27
@[simp] theorem agg_28 : isAggV Tryz.prog 28 = some true := by kernel_rfl
@[simp] theorem size_28 : sizeV Tryz.prog 28 = some 6 := by kernel_rfl
@[simp] theorem zero_28 : zeroV Tryz.prog 28 = some (.agg [.nilslice, .nilslice, .nilslice, .int .u32 0, .int .u32 0, .nilslice]) := by kernel_rfl
attribute [simp] Tryz.underlying28
@[simp] theorem agg_29 : isAggV Tryz.prog 29 = some false := by kernel_rfl
@[simp] theorem size_29 : sizeV Tryz.prog 29 = some 1 := by kernel_rfl
attribute [simp] Tryz.underlying29
attribute [simp] Tryz.underlying30
@[simp] theorem agg_31 : isAggV Tryz.prog 31 = some true := by kernel_rfl
@[simp] theorem size_31 : sizeV Tryz.prog 31 = some 2 := by kernel_rfl
@[simp] theorem zero_31 : zeroV Tryz.prog 31 = some (.agg [.nilslice, .nilslice]) := by kernel_rfl
attribute [simp] Tryz.underlying31
attribute [simp] Tryz.underlying32
attribute [simp] Tryz.underlying33
@[simp] theorem agg_34 : isAggV Tryz.prog 34 = some false := by kernel_rfl
@[simp] theorem size_34 : sizeV Tryz.prog 34 = some 1 := by kernel_rfl
@[simp] theorem zero_34 : zeroV Tryz.prog 34 = some (.int .i64 0) := by kernel_rfl
attribute [simp] Tryz.underlying34
attribute [simp] Tryz.underlying35
attribute [simp] Tryz.underlying36
attribute [simp] Tryz.underlying37
attribute [simp] Tryz.underlying38
attribute [simp] Tryz.underlying39
attribute [simp] Tryz.underlying40
@[simp] theorem agg_41 : isAggV Tryz.prog 41 = some false := by kernel_rfl
@[simp] theorem size_41 : sizeV Tryz.prog 41 = some 1 := by kernel_rfl
attribute [simp] Tryz.underlying41
@[simp] theorem agg_42 : isAggV Tryz.prog 42 = some false := by kernel_rfl
@[simp] theorem size_42 : sizeV Tryz.prog 42 = some 1 := by kernel_rfl
attribute [simp] Tryz.underlying42
attribute [simp] Tryz.underlying43
@[simp] theorem agg_44 : isAggV Tryz.prog 44 = some true := by kernel_rfl
@[simp] theorem size_44 : sizeV Tryz.prog 44 = some 6 := by kernel_rfl
@[simp] theorem zero_44 : zeroV Tryz.prog 44 = some (.agg [.int .u32 0, .int .u32 0, .int .u8 0, .int .u8 0, .int .u32 0, .int .u32 0]) := by kernel_rfl
attribute [simp] Tryz.underlying44
attribute [simp] Tryz.underlying45
@[simp] theorem agg_46 : isAggV Tryz.prog 46 = some true := by kernel_rfl
@[simp] theorem size_46 : sizeV Tryz.prog 46 = some 7 := by kernel_rfl
@[simp] theorem bytes_46 : bytesV Tryz.prog 46 = some 24 := by kernel_rfl
@[simp] theorem zero_46 : zeroV Tryz.prog 46 = some (.agg [.int .u32 0, .int .u32 0, .int .u8 0, .int .u8 0, .int .u32 0, .int .u32 0, .int .u32 0]) := by kernel_rfl
attribute [simp] Tryz.underlying46
attribute [simp] Tryz.underlying47
@[simp] theorem agg_48 : isAggV Tryz.prog 48 = some true := by kernel_rfl
@[simp] theorem size_48 : sizeV Tryz.prog 48 = some 2 := by kernel_rfl
@[simp] theorem bytes_48 : bytesV Tryz.prog 48 = some 8 := by kernel_rfl
@[simp] theorem zero_48 : zeroV Tryz.prog 48 = some (.agg [.int .u8 0, .int .u32 0]) := by kernel_rfl
attribute [simp] Tryz.underlying48
attribute [simp] Tryz.underlying49
attribute [simp] Tryz.underlying50
attribute [simp] Tryz.underlying51
attribute [simp] Tryz.underlying52
attribute [simp] Tryz.underlying53
attribute [simp] Tryz.underlying54
attribute [simp] Tryz.underlying55
attribute [simp] Tryz.underlying56
@[simp] theorem agg_57 : isAggV Tryz.prog 57 = some false := by kernel_rfl
@[simp] theorem size_57 : sizeV Tryz.prog 57 = some 1 := by kernel_rfl
@[simp] theorem bytes_57 : bytesV Tryz.prog 57 = some 8 := by kernel_rfl
@[simp] theorem zero_57 : zeroV Tryz.prog 57 = some (.int .u64 0) := by kernel_rfl
attribute [simp] Tryz.underlying57
attribute [simp] Tryz.underlying58
attribute [simp] Tryz.underlying59
attribute [simp] Tryz.underlying60
attribute [simp] Tryz.underlying61
attribute [simp] Tryz.underlying62
attribute [simp] Tryz.underlying63
@[simp] theorem agg_64 : isAggV Tryz.prog 64 = some false := by kernel_rfl
@[simp] theorem size_64 : sizeV Tryz.prog 64 = some 1 := by kernel_rfl
attribute [simp] Tryz.underlying64
attribute [simp] Tryz.underlying65
attribute [simp] Tryz.underlying66
@[simp] theorem agg_67 : isAggV Tryz.prog 67 = some false := by kernel_rfl
@[simp] theorem size_67 : sizeV Tryz.prog 67 = some 1 := by kernel_rfl
@[simp] theorem zero_67 : zeroV Tryz.prog 67 = some (.nilslice) := by kernel_rfl
attribute [simp] Tryz.underlying67
attribute [simp] Tryz.underlying68
attribute [simp] Tryz.underlying69
@[simp] theorem agg_70 : isAggV Tryz.prog 70 = some false := by kernel_rfl
@[simp] theorem size_70 : sizeV Tryz.prog 70 = some 1 := by kernel_rfl
attribute [simp] Tryz.underlying70
attribute [simp] Tryz.underlying71
@[simp] theorem agg_72 : isAggV Tryz.prog 72 = some true := by kernel_rfl
@[simp] theorem size_72 : sizeV Tryz.prog 72 = some 2 := by kernel_rfl
@[simp] theorem zero_72 : zeroV Tryz.prog 72 = some (.agg [.nilptr, .nilslice]) := by kernel_rfl
attribute [simp] Tryz.underlying72
attribute [simp] Tryz.underlying73
@[simp] theorem agg_74 : isAggV Tryz.prog 74 = some true := by kernel_rfl
@[simp] theorem size_74 : sizeV Tryz.prog 74 = some 2 := by kernel_rfl
@[simp] theorem zero_74 : zeroV Tryz.prog 74 = some (.agg [.nilslice, .nilslice]) := by kernel_rfl
attribute [simp] Tryz.underlying74
attribute [simp] Tryz.underlying75
@[simp] theorem zero_76 : zeroV Tryz.prog 76 = some (.agg [.nilptr, .nilslice, .nilslice, .nilslice, .nilslice, .nilslice, .nilslice, .int .u32 0, .int .u32 0, .nilslice, .int .i64 0, .int .u64 0]) := by kernel_rfl
attribute [simp] Tryz.underlying76
attribute [simp] Tryz.underlying77
attribute [simp] Tryz.underlying78
attribute [simp] Tryz.underlying79
attribute [simp] Tryz.underlying80
attribute [simp] Tryz.underlying81
attribute [simp] Tryz.underlying82
@[simp] theorem zero_83 : zeroV Tryz.prog 83 = some (.agg [.nilptr]) := by kernel_rfl
attribute [simp] Tryz.underlying83
attribute [simp] Tryz.underlying84
attribute [simp] Tryz.underlying85
attribute [simp] Tryz.underlying86
attribute [simp] Tryz.underlying87
attribute [simp] Tryz.underlying88
attribute [simp] Tryz.underlying89
attribute [simp] Tryz.underlying90
attribute [simp] Tryz.underlying91
attribute [simp] Tryz.underlying92
attribute [simp] Tryz.underlying93
attribute [simp] Tryz.underlying94
attribute [simp] Tryz.underlying95
attribute [simp] Tryz.underlying96
attribute [simp] Tryz.underlying97
attribute [simp] Tryz.underlying98
attribute [simp] Tryz.underlying99
attribute [simp] Tryz.underlying100
attribute [simp] Tryz.underlying101
attribute [simp] Tryz.underlying102
@[simp] theorem agg_103 : isAggV Tryz.prog 103 = some false := by kernel_rfl
@[simp] theorem size_103 : sizeV Tryz.prog 103 = some 1 := by kernel_rfl
attribute [simp] Tryz.underlying103
attribute [simp] Tryz.underlying104
@[simp] theorem agg_105 : isAggV Tryz.prog 105 = some true := by kernel_rfl
@[simp] theorem size_105 : sizeV Tryz.prog 105 = some 6 := by kernel_rfl
@[simp] theorem zero_105 : zeroV Tryz.prog 105 = some (.agg [.str [], .int .i64 0, .int .u32 0, .int .i64 0, .int .i64 0, .int .u8 0]) := by kernel_rfl
attribute [simp] Tryz.underlying105
attribute [simp] Tryz.underlying106
attribute [simp] Tryz.underlying107
attribute [simp] Tryz.underlying108
attribute [simp] Tryz.underlying109
attribute [simp] Tryz.underlying110
attribute [simp] Tryz.underlying111
attribute [simp] Tryz.underlying112
attribute [simp] Tryz.underlying113
attribute [simp] Tryz.underlying114
attribute [simp] Tryz.underlying115
attribute [simp] Tryz.underlying116
@[simp] theorem agg_117 : isAggV Tryz.prog 117 = some true := by kernel_rfl
@[simp] theorem size_117 : sizeV Tryz.prog 117 = some 2 := by kernel_rfl
@[simp] theorem bytes_117 : bytesV Tryz.prog 117 = some 24 := by kernel_rfl
@[simp] theorem zero_117 : zeroV Tryz.prog 117 = some (.agg [.str [], .int .u32 0]) := by kernel_rfl
attribute [simp] Tryz.underlying117
attribute [simp] Tryz.underlying118
attribute [simp] Tryz.underlying119
attribute [simp] Tryz.underlying120
attribute [simp] Tryz.underlying121
attribute [simp] Tryz.underlying122
@[simp] theorem agg_123 : isAggV Tryz.prog 123 = some true := by kernel_rfl
@[simp] theorem size_123 : sizeV Tryz.prog 123 = some 4 := by kernel_rfl
@[simp] theorem bytes_123 : bytesV Tryz.prog 123 = some 24 := by kernel_rfl
@[simp] theorem zero_123 : zeroV Tryz.prog 123 = some (.agg [.int .u32 0, .int .u32 0, .int .u32 0, .int .i64 0]) := by kernel_rfl
attribute [simp] Tryz.underlying123
@[simp] theorem agg_124 : isAggV Tryz.prog 124 = some false := by kernel_rfl
@[simp] theorem size_124 : sizeV Tryz.prog 124 = some 1 := by kernel_rfl
attribute [simp] Tryz.underlying124
@[simp] theorem agg_125 : isAggV Tryz.prog 125 = some false := by kernel_rfl
@[simp] theorem size_125 : sizeV Tryz.prog 125 = some 1 := by kernel_rfl
attribute [simp] Tryz.underlying125
attribute [simp] Tryz.underlying126
@[simp] theorem zero_127 : zeroV Tryz.prog 127 = some (.agg [.nilslice, .nilslice, .nilslice]) := by kernel_rfl
attribute [simp] Tryz.underlying127
attribute [simp] Tryz.underlying128
@[simp] theorem agg_129 : isAggV Tryz.prog 129 = some false := by kernel_rfl
@[simp] theorem size_129 : sizeV Tryz.prog 129 = some 1 := by kernel_rfl
attribute [simp] Tryz.underlying129
attribute [simp] Tryz.underlying130
attribute [simp] Tryz.underlying131
attribute [simp] Tryz.underlying132
attribute [simp] Tryz.underlying133
attribute [simp] Tryz.underlying134
attribute [simp] Tryz.underlying135
attribute [simp] Tryz.underlying136
attribute [simp] Tryz.underlying137
attribute [simp] Tryz.underlying138
attribute [simp] Tryz.underlying139
attribute [simp] Tryz.underlying140
@[simp] theorem agg_141 : isAggV Tryz.prog 141 = some true := by kernel_rfl
@[simp] theorem size_141 : sizeV Tryz.prog 141 = some 2 := by kernel_rfl
@[simp] theorem bytes_141 : bytesV Tryz.prog 141 = some 8 := by kernel_rfl
@[simp] theorem zero_141 : zeroV Tryz.prog 141 = some (.agg [.int .u32 0, .int .u32 0]) := by kernel_rfl
attribute [simp] Tryz.underlying141
attribute [simp] Tryz.underlying142
attribute [simp] Tryz.underlying143
attribute [simp] Tryz.underlying144
attribute [simp] Tryz.underlying145
@[simp] theorem agg_146 : isAggV Tryz.prog 146 = some false := by kernel_rfl
@[simp] theorem size_146 : sizeV Tryz.prog 146 = some 1 := by kernel_rfl
@[simp] theorem zero_146 : zeroV Tryz.prog 146 = some (.nilslice) := by kernel_rfl
attribute [simp] Tryz.underlying146
attribute [simp] Tryz.underlying147
@[simp] theorem zero_148 : zeroV Tryz.prog 148 = some (.agg [.int .i64 0, .nilslice]) := by kernel_rfl
attribute [simp] Tryz.underlying148
attribute [simp] Tryz.underlying149
@[simp] theorem agg_150 : isAggV Tryz.prog 150 = some true := by kernel_rfl
@[simp] theorem size_150 : sizeV Tryz.prog 150 = some 3 := by kernel_rfl
@[simp] theorem zero_150 : zeroV Tryz.prog 150 = some (.agg [.nilslice, .int .u32 0, .int .u32 0]) := by kernel_rfl
attribute [simp] Tryz.underlying150
attribute [simp] Tryz.underlying151
@[simp] theorem agg_152 : isAggV Tryz.prog 152 = some false := by kernel_rfl
@[simp] theorem size_152 : sizeV Tryz.prog 152 = some 1 := by kernel_rfl
attribute [simp] Tryz.underlying152
attribute [simp] Tryz.underlying153
attribute [simp] Tryz.underlying154
attribute [simp] Tryz.underlying155
attribute [simp] Tryz.underlying156
attribute [simp] Tryz.underlying157
attribute [simp] Tryz.underlying158
attribute [simp] Tryz.underlying159
attribute [simp] Tryz.underlying160
attribute [simp] Tryz.underlying161
attribute [simp] Tryz.underlying162
attribute [simp] Tryz.underlying163
attribute [simp] Tryz.underlying164
attribute [simp] Tryz.underlying165
attribute [simp] Tryz.underlying166
attribute [simp] Tryz.underlying167
attribute [simp] Tryz.underlying168
attribute [simp] Tryz.underlying169
@[simp] theorem zero_170 : zeroV Tryz.prog 170 = some (.agg [.nilslice, .nilslice, .nilptr]) := by kernel_rfl
attribute [simp] Tryz.underlying170
attribute [simp] Tryz.underlying171
attribute [simp] Tryz.underlying172
attribute [simp] Tryz.underlying173
attribute [simp] Tryz.underlying174
attribute [simp] Tryz.underlying175
attribute [simp] Tryz.underlying176
attribute [simp] Tryz.underlying177
attribute [simp] Tryz.underlying178
attribute [simp] Tryz.underlying179
attribute [simp] Tryz.underlying180
attribute [simp] Tryz.underlying181
@[simp] theorem agg_182 : isAggV Tryz.prog 182 = some false := by kernel_rfl
@[simp] theorem size_182 : sizeV Tryz.prog 182 = some 1 := by kernel_rfl
attribute [simp] Tryz.underlying182
attribute [simp] Tryz.underlying183
@[simp] theorem agg_184 : isAggV Tryz.prog 184 = some false := by kernel_rfl
@[simp] theorem size_184 : sizeV Tryz.prog 184 = some 1 := by kernel_rfl
attribute [simp] Tryz.underlying184
@[simp] theorem agg_185 : isAggV Tryz.prog 185 = some false := by kernel_rfl
@[simp] theorem size_185 : sizeV Tryz.prog 185 = some 1 := by kernel_rfl
attribute [simp] Tryz.underlying185
attribute [simp] Tryz.underlying186
attribute [simp] Tryz.underlying187
attribute [simp] Tryz.underlying188
attribute [simp] Tryz.underlying189
attribute [simp] Tryz.underlying190
attribute [simp] Tryz.underlying191
@[simp] theorem agg_192 : isAggV Tryz.prog 192 = some false := by kernel_rfl
@[simp] theorem size_192 : sizeV Tryz.prog 192 = some 1 := by kernel_rfl
attribute [simp] Tryz.underlying192
attribute [simp] Tryz.underlying193
attribute [simp] Tryz.underlying194
attribute [simp] Tryz.underlying195
attribute [simp] Tryz.underlying196
attribute [simp] Tryz.underlying197
attribute [simp] Tryz.underlying198
attribute [simp] Tryz.underlying199
@[simp] theorem agg_200 : isAggV Tryz.prog 200 = some true := by kernel_rfl
@[simp] theorem size_200 : sizeV Tryz.prog 200 = some 4 := by kernel_rfl
@[simp] theorem zero_200 : zeroV Tryz.prog 200 = some (.agg [.int .u32 0, .int .u32 0, .int .u8 0, .int .u32 0]) := by kernel_rfl
attribute [simp] Tryz.underlying200
attribute [simp] Tryz.underlying201
attribute [simp] Tryz.underlying202
attribute [simp] Tryz.underlying203
attribute [simp] Tryz.underlying204
attribute [simp] Tryz.underlying205
attribute [simp] Tryz.underlying206
attribute [simp] Tryz.underlying207
attribute [simp] Tryz.underlying208
attribute [simp] Tryz.underlying209
attribute [simp] Tryz.underlying210
attribute [simp] Tryz.underlying211
attribute [simp] Tryz.underlying212
attribute [simp] Tryz.underlying213
attribute [simp] Tryz.underlying214
attribute [simp] Tryz.underlying215
@[simp] theorem size_216 : sizeV Tryz.prog 216 = some 64 := by kernel_rfl
attribute [simp] Tryz.underlying216
attribute [simp] Tryz.underlying217
attribute [simp] Tryz.underlying218
attribute [simp] Tryz.underlying219
attribute [simp] Tryz.underlying220
attribute [simp] Tryz.underlying221
attribute [simp] Tryz.underlying222
attribute [simp] Tryz.underlying223
attribute [simp] Tryz.underlying224
attribute [simp] Tryz.underlying225
attribute [simp] Tryz.underlying226
attribute [simp] Tryz.underlying227
attribute [simp] Tryz.underlying228
attribute [simp] Tryz.underlying229
attribute [simp] Tryz.underlying230
attribute [simp] Tryz.underlying231
attribute [simp] Tryz.underlying232
attribute [simp] Tryz.underlying233
attribute [simp] Tryz.underlying234
attribute [simp] Tryz.underlying235
attribute [simp] Tryz.underlying236
attribute [simp] Tryz.underlying237
attribute [simp] Tryz.underlying238
attribute [simp] Tryz.underlying239
attribute [simp] Tryz.underlying240
attribute [simp] Tryz.underlying241
attribute [simp] Tryz.underlying242
attribute [simp] Tryz.underlying243
attribute [simp] Tryz.underlying244
attribute [simp] Tryz.underlying245
attribute [simp] Tryz.underlying246
attribute [simp] Tryz.underlying247
attribute [simp] Tryz.underlying248
attribute [simp] Tryz.underlying249
attribute [simp] Tryz.underlying250
attribute [simp] Tryz.underlying251
attribute [simp] Tryz.underlying252
attribute [simp] Tryz.underlying253
attribute [simp] Tryz.underlying254
attribute [simp] Tryz.underlying255
attribute [simp] Tryz.underlying256
attribute [simp] Tryz.underlying257
end Go.Proofs.YtfplmcpkagpaiaaGreatDoor
end
section
namespace Go.Proofs.YtfplmcpkagpaiaaGreatDoor.A
open Go Go.Sim
def modeT (f : Nat) : Sim.Mode :=
 match f with
 | 83 => .heap
 | 84 => .heap
 | 53 => .own
 | 82 => .live
 | 85 => .own
 | 57 => .own
 | 104 => .heap
 | 81 => .heap
 | 106 => .heap
 | 109 => .heap
 | 124 => .heap
 | 127 => .heap
 | 175 => .heap
 | 173 => .heap
 | 174 => .heap
 | 125 => .heap
 | 79 => .own
 | 105 => .pure
 | 172 => .pure
 | 47 => .live
 | 49 => .inl
 | 52 => .own
 | 18 => .own
 | 130 => .heap
 | 128 => .heap
 | 131 => .heap
 | 129 => .heap
 | 30 => .live
 | 66 => .heap
 | 59 => .own
 | 60 => .heap
 | 61 => .heap
 | 70 => .heap
 | 22 => .own
 | 16 => .inl
 | 33 => .live
 | 28 => .inl
 | _ => .pure
def fgs (l : List Nat) : List Hint := l.map .forget
def hintT (f r : Nat) : List Hint :=
 match f, r with
 | _, _ => []
noncomputable def knownT (f : Nat) : Option (List V → Heap → Option (V × Heap)) :=
 match f with
 | 143 => some (knUU fun a b => .int .u32 (arithF .add a b))
 | 144 => some (knUU fun a b => .int .u32 (arithF .sub a b))
 | 145 => some (knUU fun a b => .int .u32 (arithF .mul a b))
 | 146 => some (knUU fun a b => .int .u32 (arithF .quo a b))
 | 136 => some (knUU fun a b => .int .u8 (standF a b))
 | 141 => some (knU fun a => .int .i32 (towardF a))
 | 140 => some (knI fun a => .int .u32 (ofF a))
 | _ => none
noncomputable def E : Env := { P := Tryz.prog, mode := modeT, hint := hintT, known := knownT, eqTypes := [44, 48], fns := fun f => Nat.blt f 181 }
@[simp] theorem E_P : E.P = Tryz.prog := rfl
abbrev PU (f : Nat) (d : List Nat) (fn : Func) (k : Nat) : Prop := ∀ {lent : Bool} {args : List V} {r : V}, evK E (om E) f d (fn.body.getD .skip) (endK Tryz.prog fn.results.toList (pureFin lent)) (args ++ pois (k - args.length)) [[]] = some r → pureV E (om E) f lent args = some r
abbrev BO (f : Nat) (d : List Nat) (fn : Func) (k : Nat) : Prop := ∀ {args : List V} {h : Heap} {r : V × Heap}, evK E (om E) f d (fn.body.getD .skip) (endK Tryz.prog fn.results.toList bodyFin) (args ++ pois (k - args.length)) h = some r → bodyV E (om E) f args h = some r
abbrev CP (f : Nat) : Prop := ∀ (args : List V) (h : Heap), callV E (om E) f args h = (viewArgs h args).bind fun a => (pureV E (om E) f (!V.flatL args) a).map fun r => (r, h)
attribute [simp] Tryz.results132
theorem pu_132 : PU 132 [] Tryz.f132 74 := fun hr => pureV_of (dyn := []) rfl (by rw [E_P]; exact Tryz.func132) (by unfold Tryz.f132; rfl) (by kernel_rfl) (by rw [Tryz.ntmps132]; exact hr)
@[simp] theorem call_132 : CP 132 := callV_pure rfl rfl
attribute [simp] Tryz.results134
theorem pu_134 : PU 134 [] Tryz.f134 39 := fun hr => pureV_of (dyn := []) rfl (by rw [E_P]; exact Tryz.func134) (by unfold Tryz.f134; rfl) (by kernel_rfl) (by rw [Tryz.ntmps134]; exact hr)
@[simp] theorem call_134 : CP 134 := callV_pure rfl rfl
attribute [simp] Tryz.results135
theorem pu_135 : PU 135 [] Tryz.f135 39 := fun hr => pureV_of (dyn := []) rfl (by rw [E_P]; exact Tryz.func135) (by unfold Tryz.f135; rfl) (by kernel_rfl) (by rw [Tryz.ntmps135]; exact hr)
@[simp] theorem call_135 : CP 135 := callV_pure rfl rfl
@[simp] theorem call_136 (args : List V) (h : Heap) : callV E (om E) 136 args h = (knUU fun a b => .int .u8 (standF a b)) args h := callV_known rfl args h
attribute [simp] Tryz.results138
theorem pu_138 : PU 138 [] Tryz.f138 105 := fun hr => pureV_of (dyn := []) rfl (by rw [E_P]; exact Tryz.func138) (by unfold Tryz.f138; rfl) (by kernel_rfl) (by rw [Tryz.ntmps138]; exact hr)
@[simp] theorem call_138 : CP 138 := callV_pure rfl rfl
@[simp] theorem call_140 (args : List V) (h : Heap) : callV E (om E) 140 args h = (knI fun a => .int .u32 (ofF a)) args h := callV_known rfl args h
@[simp] theorem call_141 (args : List V) (h : Heap) : callV E (om E) 141 args h = (knU fun a => .int .i32 (towardF a)) args h := callV_known rfl args h
@[simp] theorem call_143 (args : List V) (h : Heap) : callV E (om E) 143 args h = (knUU fun a b => .int .u32 (arithF .add a b)) args h := callV_known rfl args h
@[simp] theorem call_144 (args : List V) (h : Heap) : callV E (om E) 144 args h = (knUU fun a b => .int .u32 (arithF .sub a b)) args h := callV_known rfl args h
@[simp] theorem call_145 (args : List V) (h : Heap) : callV E (om E) 145 args h = (knUU fun a b => .int .u32 (arithF .mul a b)) args h := callV_known rfl args h
@[simp] theorem call_146 (args : List V) (h : Heap) : callV E (om E) 146 args h = (knUU fun a b => .int .u32 (arithF .quo a b)) args h := callV_known rfl args h
end Go.Proofs.YtfplmcpkagpaiaaGreatDoor.A
end
