/- The table: written by a program. -/
import Derived.Test.YtbajjfdkkffamaaGreatDoorF0
import Derived.Test.YtbajjfdkkffamaaGreatDoorF1
import Derived.Test.YtbajjfdkkffamaaGreatDoorF2
import Derived.Test.YtbajjfdkkffamaaGreatDoorF3
import Derived.Test.YtbajjfdkkffamaaGreatDoorF4
import Derived.Test.YtbajjfdkkffamaaGreatDoorF5
namespace Go.Cn
set_option maxRecDepth 100000
noncomputable def dC : FT FnD := (.node (.node (.node (.node (.node (.node (.node (.node (.node .nil 2 (a0 F2) .nil) 3 (a3 F3) .nil) 4 (a0 F4) (.node .nil 5 (a1 F5) .nil)) 6 (a2 F6) (.node (.node (.node .nil 7 (a2 F7) .nil) 8 (a1 F8) .nil) 9 (a2 F9) (.node .nil 10 (a0 F10) .nil))) 11 (a2 F11) (.node (.node (.node (.node .nil 12 (a3 F12) .nil) 13 (a2 F13) .nil) 14 (a2 F14) (.node .nil 15 (a3 F15) .nil)) 16 (a2 F16) (.node (.node (.node .nil 17 (a2 F17) .nil) 18 (a2 F18) .nil) 19 (a2 F19) (.node .nil 20 (a2 F20) .nil)))) 21 (a2 F21) (.node (.node (.node (.node (.node .nil 22 (a2 F22) .nil) 23 (a2 F23) .nil) 24 (a2 F24) (.node .nil 25 (a1 F25) .nil)) 26 (a3 F26) (.node (.node (.node .nil 27 (a3 F27) .nil) 28 (a2 F28) .nil) 29 (a2 F29) (.node .nil 30 (a3 F30) .nil))) 31 (a3 F31) (.node (.node (.node (.node .nil 32 (a3 F32) .nil) 33 (a3 F33) .nil) 34 (a4 F34) (.node .nil 35 (a2 F35) .nil)) 36 (a4 F36) (.node (.node .nil 37 (a3 F37) .nil) 38 (a3 F38) (.node .nil 39 (a3 F39) .nil))))) 40 (a2 F40) (.node (.node (.node (.node (.node (.node .nil 41 (a3 F41) .nil) 42 (a3 F42) .nil) 43 (a1 F43) (.node .nil 44 (a3 F44) .nil)) 45 (a2 F45) (.node (.node (.node .nil 46 (a2 F46) .nil) 47 (a1 F47) .nil) 48 (a1 F48) (.node .nil 49 (a1 F49) .nil))) 50 (a1 F50) (.node (.node (.node (.node .nil 51 (a1 F51) .nil) 52 (a2 F52) .nil) 53 (a2 F53) (.node .nil 54 (a2 F54) .nil)) 55 (a2 F55) (.node (.node (.node .nil 56 (a2 F56) .nil) 57 (a1 F57) .nil) 58 (a5 F58) (.node .nil 59 (a1 F59) .nil)))) 60 (a2 F60) (.node (.node (.node (.node (.node .nil 61 (a1 F61) .nil) 62 (a1 F62) .nil) 63 (a3 F63) (.node .nil 64 (a1 F64) .nil)) 65 (a2 F65) (.node (.node (.node .nil 66 (a4 F66) .nil) 67 (a2 F67) .nil) 68 (a3 F68) (.node .nil 69 (a3 F69) .nil))) 70 (a3 F70) (.node (.node (.node (.node .nil 71 (a1 F71) .nil) 72 (a3 F72) .nil) 73 (a1 F73) (.node .nil 74 (a1 F74) .nil)) 75 (a1 F75) (.node (.node .nil 76 (a0 F76) .nil) 77 (a4 F77) (.node .nil 78 (a2 F78) .nil)))))) 79 (a1 F79) (.node (.node (.node (.node (.node (.node (.node .nil 80 (a1 F80) .nil) 81 (a1 F81) .nil) 82 (a1 F82) (.node .nil 83 (a2 F83) .nil)) 84 (a2 F84) (.node (.node (.node .nil 85 (a1 F85) .nil) 86 (a1 F86) .nil) 87 (a1 F87) (.node .nil 88 (a2 F88) .nil))) 89 (a2 F89) (.node (.node (.node (.node .nil 90 (a1 F90) .nil) 91 (a1 F91) .nil) 92 (a1 F92) (.node .nil 93 (a2 F93) .nil)) 94 (a1 F94) (.node (.node (.node .nil 95 (a2 F95) .nil) 96 (a2 F96) .nil) 97 (a1 F97) (.node .nil 98 (a1 F98) .nil)))) 99 (a3 F99) (.node (.node (.node (.node (.node .nil 100 (a3 F100) .nil) 101 (a3 F101) .nil) 102 (a2 F102) (.node .nil 103 (a2 F103) .nil)) 104 (a1 F104) (.node (.node (.node .nil 105 (a2 F105) .nil) 106 (a1 F106) .nil) 107 (a2 F107) (.node .nil 108 (a1 F108) .nil))) 109 (a1 F109) (.node (.node (.node (.node .nil 110 (a2 F110) .nil) 111 (a1 F111) .nil) 112 (a1 F112) (.node .nil 113 (a2 F113) .nil)) 114 (a2 F114) (.node (.node .nil 115 (a1 F115) .nil) 116 (a2 F116) (.node .nil 117 (a0 F117) .nil))))) 118 (a0 F118) (.node (.node (.node (.node (.node (.node .nil 119 (a1 F119) .nil) 120 (a4 F120) .nil) 121 (a2 F121) (.node .nil 122 (a2 F122) .nil)) 123 (a2 F123) (.node (.node (.node .nil 124 (a2 F124) .nil) 125 (a2 F125) .nil) 126 (a2 F126) (.node .nil 127 (a1 F127) .nil))) 128 (a2 F128) (.node (.node (.node (.node .nil 129 (a2 F129) .nil) 130 (a2 F130) .nil) 131 (a2 F131) (.node .nil 132 (a1 F132) .nil)) 133 (a0 F133) (.node (.node (.node .nil 134 (a1 F134) .nil) 135 (a1 F135) .nil) 136 (a2 F136) (.node .nil 137 (a3 F137) .nil)))) 138 (a3 F138) (.node (.node (.node (.node (.node .nil 139 (a2 F139) .nil) 140 (a2 F140) .nil) 141 (a2 F141) (.node .nil 142 (a1 F142) .nil)) 143 (a1 F143) (.node (.node (.node .nil 144 (a1 F144) .nil) 145 (a1 F145) .nil) 146 (a2 F146) (.node .nil 147 (a1 F147) .nil))) 148 (a1 F148) (.node (.node (.node (.node .nil 149 (a1 F149) .nil) 150 (a2 F150) .nil) 151 (a2 F151) (.node .nil 152 (a1 F152) .nil)) 154 (a1 F154) (.node (.node .nil 155 (a2 F155) .nil) 156 (a2 F156) (.node .nil 157 (a2 F157) .nil))))))) 158 (a1 F158) (.node (.node (.node (.node (.node (.node (.node (.node .nil 159 (a3 F159) .nil) 160 (a3 F160) .nil) 161 (a2 F161) (.node .nil 162 (a1 F162) .nil)) 163 (a1 F163) (.node (.node (.node .nil 164 (a2 F164) .nil) 165 (a2 F165) .nil) 166 (a3 F166) (.node .nil 167 (a2 F167) .nil))) 168 (a1 F168) (.node (.node (.node (.node .nil 169 (a2 F169) .nil) 170 (a2 F170) .nil) 171 (a2 F171) (.node .nil 172 (a1 F172) .nil)) 173 (a1 F173) (.node (.node (.node .nil 174 (a2 F174) .nil) 175 (a2 F175) .nil) 176 (a2 F176) (.node .nil 177 (a1 F177) .nil)))) 178 (a2 F178) (.node (.node (.node (.node (.node .nil 179 (a2 F179) .nil) 180 (a3 F180) .nil) 181 (a3 F181) (.node .nil 182 (a1 F182) .nil)) 183 (a2 F183) (.node (.node (.node .nil 184 (a1 F184) .nil) 185 (a1 F185) .nil) 186 (a3 F186) (.node .nil 187 (a3 F187) .nil))) 188 (a2 F188) (.node (.node (.node (.node .nil 189 (a2 F189) .nil) 190 (a3 F190) .nil) 191 (a2 F191) (.node .nil 192 (a3 F192) .nil)) 193 (a1 F193) (.node (.node .nil 196 (a2 F196) .nil) 197 (a2 F197) (.node .nil 198 (a2 F198) .nil))))) 199 (a2 F199) (.node (.node (.node (.node (.node (.node .nil 200 (a1 F200) .nil) 201 (a2 F201) .nil) 202 (a2 F202) (.node .nil 203 (a1 F203) .nil)) 204 (a2 F204) (.node (.node (.node .nil 205 (a1 F205) .nil) 206 (a2 F206) .nil) 207 (a2 F207) (.node .nil 208 (a3 F208) .nil))) 209 (a1 F209) (.node (.node (.node (.node .nil 210 (a2 F210) .nil) 211 (a2 F211) .nil) 212 (a2 F212) (.node .nil 213 (a1 F213) .nil)) 214 (a1 F214) (.node (.node (.node .nil 215 (a1 F215) .nil) 216 (a2 F216) .nil) 217 (a3 F217) (.node .nil 218 (a3 F218) .nil)))) 219 (a2 F219) (.node (.node (.node (.node (.node .nil 220 (a4 F220) .nil) 221 (a2 F221) .nil) 222 (a1 F222) (.node .nil 223 (a1 F223) .nil)) 224 (a2 F224) (.node (.node (.node .nil 225 (a3 F225) .nil) 226 (a2 F226) .nil) 227 (a2 F227) (.node .nil 228 (a2 F228) .nil))) 229 (a1 F229) (.node (.node (.node (.node .nil 230 (a2 F230) .nil) 231 (a2 F231) .nil) 232 (a1 F232) (.node .nil 233 (a1 F233) .nil)) 234 (a1 F234) (.node (.node .nil 235 (a1 F235) .nil) 236 (a1 F236) (.node .nil 237 (a1 F237) .nil)))))) 238 (a1 F238) (.node (.node (.node (.node (.node (.node (.node .nil 239 (a1 F239) .nil) 240 (a1 F240) .nil) 241 (a1 F241) (.node .nil 242 (a1 F242) .nil)) 243 (a1 F243) (.node (.node (.node .nil 244 (a1 F244) .nil) 245 (a1 F245) .nil) 246 (a1 F246) (.node .nil 247 (a1 F247) .nil))) 248 (a0 F248) (.node (.node (.node (.node .nil 249 (a1 F249) .nil) 250 (a3 F250) .nil) 251 (a2 F251) (.node .nil 252 (a4 F252) .nil)) 253 (a1 F253) (.node (.node (.node .nil 254 (a1 F254) .nil) 255 (a2 F255) .nil) 256 (a5 F256) (.node .nil 257 (a2 F257) .nil)))) 258 (a2 F258) (.node (.node (.node (.node (.node .nil 259 (a2 F259) .nil) 261 (a1 F261) .nil) 262 (a2 F262) (.node .nil 263 (a1 F263) .nil)) 264 (a1 F264) (.node (.node (.node .nil 265 (a1 F265) .nil) 266 (a1 F266) .nil) 267 (a1 F267) (.node .nil 268 (a1 F268) .nil))) 269 (a1 F269) (.node (.node (.node (.node .nil 270 (a1 F270) .nil) 271 (a2 F271) .nil) 272 (a2 F272) (.node .nil 273 (a1 F273) .nil)) 274 (a2 F274) (.node (.node .nil 275 (a2 F275) .nil) 276 (a2 F276) (.node .nil 277 (a2 F277) .nil))))) 278 (a2 F278) (.node (.node (.node (.node (.node (.node .nil 279 (a2 F279) .nil) 280 (a2 F280) .nil) 281 (a2 F281) (.node .nil 282 (a1 F282) .nil)) 283 (a4 F283) (.node (.node (.node .nil 284 (a4 F284) .nil) 285 (a1 F285) .nil) 286 (a4 F286) (.node .nil 287 (a3 F287) .nil))) 288 (a2 F288) (.node (.node (.node (.node .nil 289 (a1 F289) .nil) 290 (a3 F290) .nil) 291 (a3 F291) (.node .nil 292 (a3 F292) .nil)) 293 (a3 F293) (.node (.node (.node .nil 294 (a3 F294) .nil) 295 (a3 F295) .nil) 296 (a3 F296) (.node .nil 297 (a3 F297) .nil)))) 298 (a2 F298) (.node (.node (.node (.node (.node .nil 299 (a3 F299) .nil) 300 (a4 F300) .nil) 301 (a4 F301) (.node .nil 302 (a2 F302) .nil)) 303 (a2 F303) (.node (.node (.node .nil 304 (a2 F304) .nil) 305 (a1 F305) .nil) 306 (a1 F306) (.node .nil 307 (a1 F307) .nil))) 308 (a1 F308) (.node (.node (.node (.node .nil 309 (a1 F309) .nil) 310 (a1 F310) .nil) 312 (a1 F312) (.node .nil 313 (a1 F313) .nil)) 314 (a4 F314) (.node (.node .nil 315 (a4 F315) .nil) 316 (a4 F316) (.node .nil 345 (a0 F345) .nil))))))))
theorem dC_ok : dC.All (FnOK Go.Proofs.Tryz.prog KZ) := ⟨⟨⟨⟨⟨⟨⟨⟨⟨trivial, a0_ok E2, trivial⟩, a3_ok E3, trivial⟩, a0_ok E4, ⟨trivial, a1_ok E5, trivial⟩⟩, a2_ok E6, ⟨⟨⟨trivial, a2_ok E7, trivial⟩, a1_ok E8, trivial⟩, a2_ok E9, ⟨trivial, a0_ok E10, trivial⟩⟩⟩, a2_ok E11, ⟨⟨⟨⟨trivial, a3_ok E12, trivial⟩, a2_ok E13, trivial⟩, a2_ok E14, ⟨trivial, a3_ok E15, trivial⟩⟩, a2_ok E16, ⟨⟨⟨trivial, a2_ok E17, trivial⟩, a2_ok E18, trivial⟩, a2_ok E19, ⟨trivial, a2_ok E20, trivial⟩⟩⟩⟩, a2_ok E21, ⟨⟨⟨⟨⟨trivial, a2_ok E22, trivial⟩, a2_ok E23, trivial⟩, a2_ok E24, ⟨trivial, a1_ok E25, trivial⟩⟩, a3_ok E26, ⟨⟨⟨trivial, a3_ok E27, trivial⟩, a2_ok E28, trivial⟩, a2_ok E29, ⟨trivial, a3_ok E30, trivial⟩⟩⟩, a3_ok E31, ⟨⟨⟨⟨trivial, a3_ok E32, trivial⟩, a3_ok E33, trivial⟩, a4_ok E34, ⟨trivial, a2_ok E35, trivial⟩⟩, a4_ok E36, ⟨⟨trivial, a3_ok E37, trivial⟩, a3_ok E38, ⟨trivial, a3_ok E39, trivial⟩⟩⟩⟩⟩, a2_ok E40, ⟨⟨⟨⟨⟨⟨trivial, a3_ok E41, trivial⟩, a3_ok E42, trivial⟩, a1_ok E43, ⟨trivial, a3_ok E44, trivial⟩⟩, a2_ok E45, ⟨⟨⟨trivial, a2_ok E46, trivial⟩, a1_ok E47, trivial⟩, a1_ok E48, ⟨trivial, a1_ok E49, trivial⟩⟩⟩, a1_ok E50, ⟨⟨⟨⟨trivial, a1_ok E51, trivial⟩, a2_ok E52, trivial⟩, a2_ok E53, ⟨trivial, a2_ok E54, trivial⟩⟩, a2_ok E55, ⟨⟨⟨trivial, a2_ok E56, trivial⟩, a1_ok E57, trivial⟩, a5_ok E58, ⟨trivial, a1_ok E59, trivial⟩⟩⟩⟩, a2_ok E60, ⟨⟨⟨⟨⟨trivial, a1_ok E61, trivial⟩, a1_ok E62, trivial⟩, a3_ok E63, ⟨trivial, a1_ok E64, trivial⟩⟩, a2_ok E65, ⟨⟨⟨trivial, a4_ok E66, trivial⟩, a2_ok E67, trivial⟩, a3_ok E68, ⟨trivial, a3_ok E69, trivial⟩⟩⟩, a3_ok E70, ⟨⟨⟨⟨trivial, a1_ok E71, trivial⟩, a3_ok E72, trivial⟩, a1_ok E73, ⟨trivial, a1_ok E74, trivial⟩⟩, a1_ok E75, ⟨⟨trivial, a0_ok E76, trivial⟩, a4_ok E77, ⟨trivial, a2_ok E78, trivial⟩⟩⟩⟩⟩⟩, a1_ok E79, ⟨⟨⟨⟨⟨⟨⟨trivial, a1_ok E80, trivial⟩, a1_ok E81, trivial⟩, a1_ok E82, ⟨trivial, a2_ok E83, trivial⟩⟩, a2_ok E84, ⟨⟨⟨trivial, a1_ok E85, trivial⟩, a1_ok E86, trivial⟩, a1_ok E87, ⟨trivial, a2_ok E88, trivial⟩⟩⟩, a2_ok E89, ⟨⟨⟨⟨trivial, a1_ok E90, trivial⟩, a1_ok E91, trivial⟩, a1_ok E92, ⟨trivial, a2_ok E93, trivial⟩⟩, a1_ok E94, ⟨⟨⟨trivial, a2_ok E95, trivial⟩, a2_ok E96, trivial⟩, a1_ok E97, ⟨trivial, a1_ok E98, trivial⟩⟩⟩⟩, a3_ok E99, ⟨⟨⟨⟨⟨trivial, a3_ok E100, trivial⟩, a3_ok E101, trivial⟩, a2_ok E102, ⟨trivial, a2_ok E103, trivial⟩⟩, a1_ok E104, ⟨⟨⟨trivial, a2_ok E105, trivial⟩, a1_ok E106, trivial⟩, a2_ok E107, ⟨trivial, a1_ok E108, trivial⟩⟩⟩, a1_ok E109, ⟨⟨⟨⟨trivial, a2_ok E110, trivial⟩, a1_ok E111, trivial⟩, a1_ok E112, ⟨trivial, a2_ok E113, trivial⟩⟩, a2_ok E114, ⟨⟨trivial, a1_ok E115, trivial⟩, a2_ok E116, ⟨trivial, a0_ok E117, trivial⟩⟩⟩⟩⟩, a0_ok E118, ⟨⟨⟨⟨⟨⟨trivial, a1_ok E119, trivial⟩, a4_ok E120, trivial⟩, a2_ok E121, ⟨trivial, a2_ok E122, trivial⟩⟩, a2_ok E123, ⟨⟨⟨trivial, a2_ok E124, trivial⟩, a2_ok E125, trivial⟩, a2_ok E126, ⟨trivial, a1_ok E127, trivial⟩⟩⟩, a2_ok E128, ⟨⟨⟨⟨trivial, a2_ok E129, trivial⟩, a2_ok E130, trivial⟩, a2_ok E131, ⟨trivial, a1_ok E132, trivial⟩⟩, a0_ok E133, ⟨⟨⟨trivial, a1_ok E134, trivial⟩, a1_ok E135, trivial⟩, a2_ok E136, ⟨trivial, a3_ok E137, trivial⟩⟩⟩⟩, a3_ok E138, ⟨⟨⟨⟨⟨trivial, a2_ok E139, trivial⟩, a2_ok E140, trivial⟩, a2_ok E141, ⟨trivial, a1_ok E142, trivial⟩⟩, a1_ok E143, ⟨⟨⟨trivial, a1_ok E144, trivial⟩, a1_ok E145, trivial⟩, a2_ok E146, ⟨trivial, a1_ok E147, trivial⟩⟩⟩, a1_ok E148, ⟨⟨⟨⟨trivial, a1_ok E149, trivial⟩, a2_ok E150, trivial⟩, a2_ok E151, ⟨trivial, a1_ok E152, trivial⟩⟩, a1_ok E154, ⟨⟨trivial, a2_ok E155, trivial⟩, a2_ok E156, ⟨trivial, a2_ok E157, trivial⟩⟩⟩⟩⟩⟩⟩, a1_ok E158, ⟨⟨⟨⟨⟨⟨⟨⟨trivial, a3_ok E159, trivial⟩, a3_ok E160, trivial⟩, a2_ok E161, ⟨trivial, a1_ok E162, trivial⟩⟩, a1_ok E163, ⟨⟨⟨trivial, a2_ok E164, trivial⟩, a2_ok E165, trivial⟩, a3_ok E166, ⟨trivial, a2_ok E167, trivial⟩⟩⟩, a1_ok E168, ⟨⟨⟨⟨trivial, a2_ok E169, trivial⟩, a2_ok E170, trivial⟩, a2_ok E171, ⟨trivial, a1_ok E172, trivial⟩⟩, a1_ok E173, ⟨⟨⟨trivial, a2_ok E174, trivial⟩, a2_ok E175, trivial⟩, a2_ok E176, ⟨trivial, a1_ok E177, trivial⟩⟩⟩⟩, a2_ok E178, ⟨⟨⟨⟨⟨trivial, a2_ok E179, trivial⟩, a3_ok E180, trivial⟩, a3_ok E181, ⟨trivial, a1_ok E182, trivial⟩⟩, a2_ok E183, ⟨⟨⟨trivial, a1_ok E184, trivial⟩, a1_ok E185, trivial⟩, a3_ok E186, ⟨trivial, a3_ok E187, trivial⟩⟩⟩, a2_ok E188, ⟨⟨⟨⟨trivial, a2_ok E189, trivial⟩, a3_ok E190, trivial⟩, a2_ok E191, ⟨trivial, a3_ok E192, trivial⟩⟩, a1_ok E193, ⟨⟨trivial, a2_ok E196, trivial⟩, a2_ok E197, ⟨trivial, a2_ok E198, trivial⟩⟩⟩⟩⟩, a2_ok E199, ⟨⟨⟨⟨⟨⟨trivial, a1_ok E200, trivial⟩, a2_ok E201, trivial⟩, a2_ok E202, ⟨trivial, a1_ok E203, trivial⟩⟩, a2_ok E204, ⟨⟨⟨trivial, a1_ok E205, trivial⟩, a2_ok E206, trivial⟩, a2_ok E207, ⟨trivial, a3_ok E208, trivial⟩⟩⟩, a1_ok E209, ⟨⟨⟨⟨trivial, a2_ok E210, trivial⟩, a2_ok E211, trivial⟩, a2_ok E212, ⟨trivial, a1_ok E213, trivial⟩⟩, a1_ok E214, ⟨⟨⟨trivial, a1_ok E215, trivial⟩, a2_ok E216, trivial⟩, a3_ok E217, ⟨trivial, a3_ok E218, trivial⟩⟩⟩⟩, a2_ok E219, ⟨⟨⟨⟨⟨trivial, a4_ok E220, trivial⟩, a2_ok E221, trivial⟩, a1_ok E222, ⟨trivial, a1_ok E223, trivial⟩⟩, a2_ok E224, ⟨⟨⟨trivial, a3_ok E225, trivial⟩, a2_ok E226, trivial⟩, a2_ok E227, ⟨trivial, a2_ok E228, trivial⟩⟩⟩, a1_ok E229, ⟨⟨⟨⟨trivial, a2_ok E230, trivial⟩, a2_ok E231, trivial⟩, a1_ok E232, ⟨trivial, a1_ok E233, trivial⟩⟩, a1_ok E234, ⟨⟨trivial, a1_ok E235, trivial⟩, a1_ok E236, ⟨trivial, a1_ok E237, trivial⟩⟩⟩⟩⟩⟩, a1_ok E238, ⟨⟨⟨⟨⟨⟨⟨trivial, a1_ok E239, trivial⟩, a1_ok E240, trivial⟩, a1_ok E241, ⟨trivial, a1_ok E242, trivial⟩⟩, a1_ok E243, ⟨⟨⟨trivial, a1_ok E244, trivial⟩, a1_ok E245, trivial⟩, a1_ok E246, ⟨trivial, a1_ok E247, trivial⟩⟩⟩, a0_ok E248, ⟨⟨⟨⟨trivial, a1_ok E249, trivial⟩, a3_ok E250, trivial⟩, a2_ok E251, ⟨trivial, a4_ok E252, trivial⟩⟩, a1_ok E253, ⟨⟨⟨trivial, a1_ok E254, trivial⟩, a2_ok E255, trivial⟩, a5_ok E256, ⟨trivial, a2_ok E257, trivial⟩⟩⟩⟩, a2_ok E258, ⟨⟨⟨⟨⟨trivial, a2_ok E259, trivial⟩, a1_ok E261, trivial⟩, a2_ok E262, ⟨trivial, a1_ok E263, trivial⟩⟩, a1_ok E264, ⟨⟨⟨trivial, a1_ok E265, trivial⟩, a1_ok E266, trivial⟩, a1_ok E267, ⟨trivial, a1_ok E268, trivial⟩⟩⟩, a1_ok E269, ⟨⟨⟨⟨trivial, a1_ok E270, trivial⟩, a2_ok E271, trivial⟩, a2_ok E272, ⟨trivial, a1_ok E273, trivial⟩⟩, a2_ok E274, ⟨⟨trivial, a2_ok E275, trivial⟩, a2_ok E276, ⟨trivial, a2_ok E277, trivial⟩⟩⟩⟩⟩, a2_ok E278, ⟨⟨⟨⟨⟨⟨trivial, a2_ok E279, trivial⟩, a2_ok E280, trivial⟩, a2_ok E281, ⟨trivial, a1_ok E282, trivial⟩⟩, a4_ok E283, ⟨⟨⟨trivial, a4_ok E284, trivial⟩, a1_ok E285, trivial⟩, a4_ok E286, ⟨trivial, a3_ok E287, trivial⟩⟩⟩, a2_ok E288, ⟨⟨⟨⟨trivial, a1_ok E289, trivial⟩, a3_ok E290, trivial⟩, a3_ok E291, ⟨trivial, a3_ok E292, trivial⟩⟩, a3_ok E293, ⟨⟨⟨trivial, a3_ok E294, trivial⟩, a3_ok E295, trivial⟩, a3_ok E296, ⟨trivial, a3_ok E297, trivial⟩⟩⟩⟩, a2_ok E298, ⟨⟨⟨⟨⟨trivial, a3_ok E299, trivial⟩, a4_ok E300, trivial⟩, a4_ok E301, ⟨trivial, a2_ok E302, trivial⟩⟩, a2_ok E303, ⟨⟨⟨trivial, a2_ok E304, trivial⟩, a1_ok E305, trivial⟩, a1_ok E306, ⟨trivial, a1_ok E307, trivial⟩⟩⟩, a1_ok E308, ⟨⟨⟨⟨trivial, a1_ok E309, trivial⟩, a1_ok E310, trivial⟩, a1_ok E312, ⟨trivial, a1_ok E313, trivial⟩⟩, a4_ok E314, ⟨⟨trivial, a4_ok E315, trivial⟩, a4_ok E316, ⟨trivial, a0_ok E345, trivial⟩⟩⟩⟩⟩⟩⟩⟩
theorem Ns3 : LpsOK Go.Proofs.Tryz.prog KZ 3 [(4, L3_0)] := by
  intro j q h
  cases j with | zero => (cases h; exact N3_0) | succ j =>
  cases h
theorem Ns5 : LpsOK Go.Proofs.Tryz.prog KZ 5 [(6, L5_0), (2, L5_1)] := by
  intro j q h
  cases j with | zero => (cases h; exact N5_0) | succ j =>
  cases j with | zero => (cases h; exact N5_1) | succ j =>
  cases h
theorem Ns7 : LpsOK Go.Proofs.Tryz.prog KZ 7 [(4, L7_0)] := by
  intro j q h
  cases j with | zero => (cases h; exact N7_0) | succ j =>
  cases h
theorem Ns8 : LpsOK Go.Proofs.Tryz.prog KZ 8 [(2, L8_0), (6, L8_1), (5, L8_2)] := by
  intro j q h
  cases j with | zero => (cases h; exact N8_0) | succ j =>
  cases j with | zero => (cases h; exact N8_1) | succ j =>
  cases j with | zero => (cases h; exact N8_2) | succ j =>
  cases h
theorem Ns9 : LpsOK Go.Proofs.Tryz.prog KZ 9 [(3, L9_0)] := by
  intro j q h
  cases j with | zero => (cases h; exact N9_0) | succ j =>
  cases h
theorem Ns11 : LpsOK Go.Proofs.Tryz.prog KZ 11 [(11, L11_0), (5, L11_1), (5, L11_2), (5, L11_3), (5, L11_4), (5, L11_5), (5, L11_6), (5, L11_7), (5, L11_8), (5, L11_9), (5, L11_10), (5, L11_11)] := by
  intro j q h
  cases j with | zero => (cases h; exact N11_0) | succ j =>
  cases j with | zero => (cases h; exact N11_1) | succ j =>
  cases j with | zero => (cases h; exact N11_2) | succ j =>
  cases j with | zero => (cases h; exact N11_3) | succ j =>
  cases j with | zero => (cases h; exact N11_4) | succ j =>
  cases j with | zero => (cases h; exact N11_5) | succ j =>
  cases j with | zero => (cases h; exact N11_6) | succ j =>
  cases j with | zero => (cases h; exact N11_7) | succ j =>
  cases j with | zero => (cases h; exact N11_8) | succ j =>
  cases j with | zero => (cases h; exact N11_9) | succ j =>
  cases j with | zero => (cases h; exact N11_10) | succ j =>
  cases j with | zero => (cases h; exact N11_11) | succ j =>
  cases h
theorem Ns13 : LpsOK Go.Proofs.Tryz.prog KZ 13 [(18, L13_0), (9, L13_1)] := by
  intro j q h
  cases j with | zero => (cases h; exact N13_0) | succ j =>
  cases j with | zero => (cases h; exact N13_1) | succ j =>
  cases h
theorem Ns24 : LpsOK Go.Proofs.Tryz.prog KZ 24 [(9, L24_0), (5, L24_1)] := by
  intro j q h
  cases j with | zero => (cases h; exact N24_0) | succ j =>
  cases j with | zero => (cases h; exact N24_1) | succ j =>
  cases h
theorem Ns26 : LpsOK Go.Proofs.Tryz.prog KZ 26 [(8, L26_0)] := by
  intro j q h
  cases j with | zero => (cases h; exact N26_0) | succ j =>
  cases h
theorem Ns28 : LpsOK Go.Proofs.Tryz.prog KZ 28 [(7, L28_0)] := by
  intro j q h
  cases j with | zero => (cases h; exact N28_0) | succ j =>
  cases h
theorem Ns30 : LpsOK Go.Proofs.Tryz.prog KZ 30 [(9, L30_0), (5, L30_1), (4, L30_2), (5, L30_3)] := by
  intro j q h
  cases j with | zero => (cases h; exact N30_0) | succ j =>
  cases j with | zero => (cases h; exact N30_1) | succ j =>
  cases j with | zero => (cases h; exact N30_2) | succ j =>
  cases j with | zero => (cases h; exact N30_3) | succ j =>
  cases h
theorem Ns31 : LpsOK Go.Proofs.Tryz.prog KZ 31 [(10, L31_0)] := by
  intro j q h
  cases j with | zero => (cases h; exact N31_0) | succ j =>
  cases h
theorem Ns39 : LpsOK Go.Proofs.Tryz.prog KZ 39 [(13, L39_0), (5, L39_1)] := by
  intro j q h
  cases j with | zero => (cases h; exact N39_0) | succ j =>
  cases j with | zero => (cases h; exact N39_1) | succ j =>
  cases h
theorem Ns42 : LpsOK Go.Proofs.Tryz.prog KZ 42 [(5, L42_0), (10, L42_1)] := by
  intro j q h
  cases j with | zero => (cases h; exact N42_0) | succ j =>
  cases j with | zero => (cases h; exact N42_1) | succ j =>
  cases h
theorem Ns44 : LpsOK Go.Proofs.Tryz.prog KZ 44 [(9, L44_0)] := by
  intro j q h
  cases j with | zero => (cases h; exact N44_0) | succ j =>
  cases h
theorem Ns50 : LpsOK Go.Proofs.Tryz.prog KZ 50 [(5, L50_0)] := by
  intro j q h
  cases j with | zero => (cases h; exact N50_0) | succ j =>
  cases h
theorem Ns53 : LpsOK Go.Proofs.Tryz.prog KZ 53 [(6, L53_0), (6, L53_1), (6, L53_2), (6, L53_3)] := by
  intro j q h
  cases j with | zero => (cases h; exact N53_0) | succ j =>
  cases j with | zero => (cases h; exact N53_1) | succ j =>
  cases j with | zero => (cases h; exact N53_2) | succ j =>
  cases j with | zero => (cases h; exact N53_3) | succ j =>
  cases h
theorem Ns57 : LpsOK Go.Proofs.Tryz.prog KZ 57 [(5, L57_0)] := by
  intro j q h
  cases j with | zero => (cases h; exact N57_0) | succ j =>
  cases h
theorem Ns59 : LpsOK Go.Proofs.Tryz.prog KZ 59 [(5, L59_0), (5, L59_1)] := by
  intro j q h
  cases j with | zero => (cases h; exact N59_0) | succ j =>
  cases j with | zero => (cases h; exact N59_1) | succ j =>
  cases h
theorem Ns60 : LpsOK Go.Proofs.Tryz.prog KZ 60 [(5, L60_0), (6, L60_1)] := by
  intro j q h
  cases j with | zero => (cases h; exact N60_0) | succ j =>
  cases j with | zero => (cases h; exact N60_1) | succ j =>
  cases h
theorem Ns63 : LpsOK Go.Proofs.Tryz.prog KZ 63 [(7, L63_0)] := by
  intro j q h
  cases j with | zero => (cases h; exact N63_0) | succ j =>
  cases h
theorem Ns68 : LpsOK Go.Proofs.Tryz.prog KZ 68 [(7, L68_0)] := by
  intro j q h
  cases j with | zero => (cases h; exact N68_0) | succ j =>
  cases h
theorem Ns69 : LpsOK Go.Proofs.Tryz.prog KZ 69 [(7, L69_0)] := by
  intro j q h
  cases j with | zero => (cases h; exact N69_0) | succ j =>
  cases h
theorem Ns73 : LpsOK Go.Proofs.Tryz.prog KZ 73 [(5, L73_0)] := by
  intro j q h
  cases j with | zero => (cases h; exact N73_0) | succ j =>
  cases h
theorem Ns84 : LpsOK Go.Proofs.Tryz.prog KZ 84 [(6, L84_0)] := by
  intro j q h
  cases j with | zero => (cases h; exact N84_0) | succ j =>
  cases h
theorem Ns93 : LpsOK Go.Proofs.Tryz.prog KZ 93 [(5, L93_0)] := by
  intro j q h
  cases j with | zero => (cases h; exact N93_0) | succ j =>
  cases h
theorem Ns109 : LpsOK Go.Proofs.Tryz.prog KZ 109 [(6, L109_0)] := by
  intro j q h
  cases j with | zero => (cases h; exact N109_0) | succ j =>
  cases h
theorem Ns115 : LpsOK Go.Proofs.Tryz.prog KZ 115 [(7, L115_0)] := by
  intro j q h
  cases j with | zero => (cases h; exact N115_0) | succ j =>
  cases h
theorem Ns123 : LpsOK Go.Proofs.Tryz.prog KZ 123 [(5, L123_0)] := by
  intro j q h
  cases j with | zero => (cases h; exact N123_0) | succ j =>
  cases h
theorem Ns128 : LpsOK Go.Proofs.Tryz.prog KZ 128 [(5, L128_0)] := by
  intro j q h
  cases j with | zero => (cases h; exact N128_0) | succ j =>
  cases h
theorem Ns130 : LpsOK Go.Proofs.Tryz.prog KZ 130 [(6, L130_0)] := by
  intro j q h
  cases j with | zero => (cases h; exact N130_0) | succ j =>
  cases h
theorem Ns131 : LpsOK Go.Proofs.Tryz.prog KZ 131 [(6, L131_0)] := by
  intro j q h
  cases j with | zero => (cases h; exact N131_0) | succ j =>
  cases h
theorem Ns137 : LpsOK Go.Proofs.Tryz.prog KZ 137 [(7, L137_0)] := by
  intro j q h
  cases j with | zero => (cases h; exact N137_0) | succ j =>
  cases h
theorem Ns141 : LpsOK Go.Proofs.Tryz.prog KZ 141 [(6, L141_0)] := by
  intro j q h
  cases j with | zero => (cases h; exact N141_0) | succ j =>
  cases h
theorem Ns154 : LpsOK Go.Proofs.Tryz.prog KZ 154 [(7, L154_0), (2, L154_1), (5, L154_2), (2, L154_3)] := by
  intro j q h
  cases j with | zero => (cases h; exact N154_0) | succ j =>
  cases j with | zero => (cases h; exact N154_1) | succ j =>
  cases j with | zero => (cases h; exact N154_2) | succ j =>
  cases j with | zero => (cases h; exact N154_3) | succ j =>
  cases h
theorem Ns170 : LpsOK Go.Proofs.Tryz.prog KZ 170 [(6, L170_0), (6, L170_1)] := by
  intro j q h
  cases j with | zero => (cases h; exact N170_0) | succ j =>
  cases j with | zero => (cases h; exact N170_1) | succ j =>
  cases h
theorem Ns175 : LpsOK Go.Proofs.Tryz.prog KZ 175 [(8, L175_0)] := by
  intro j q h
  cases j with | zero => (cases h; exact N175_0) | succ j =>
  cases h
theorem Ns176 : LpsOK Go.Proofs.Tryz.prog KZ 176 [(7, L176_0)] := by
  intro j q h
  cases j with | zero => (cases h; exact N176_0) | succ j =>
  cases h
theorem Ns186 : LpsOK Go.Proofs.Tryz.prog KZ 186 [(5, L186_0)] := by
  intro j q h
  cases j with | zero => (cases h; exact N186_0) | succ j =>
  cases h
theorem Ns196 : LpsOK Go.Proofs.Tryz.prog KZ 196 [(6, L196_0)] := by
  intro j q h
  cases j with | zero => (cases h; exact N196_0) | succ j =>
  cases h
theorem Ns197 : LpsOK Go.Proofs.Tryz.prog KZ 197 [(6, L197_0)] := by
  intro j q h
  cases j with | zero => (cases h; exact N197_0) | succ j =>
  cases h
theorem Ns198 : LpsOK Go.Proofs.Tryz.prog KZ 198 [(6, L198_0)] := by
  intro j q h
  cases j with | zero => (cases h; exact N198_0) | succ j =>
  cases h
theorem Ns199 : LpsOK Go.Proofs.Tryz.prog KZ 199 [(6, L199_0)] := by
  intro j q h
  cases j with | zero => (cases h; exact N199_0) | succ j =>
  cases h
theorem Ns201 : LpsOK Go.Proofs.Tryz.prog KZ 201 [(3, L201_0)] := by
  intro j q h
  cases j with | zero => (cases h; exact N201_0) | succ j =>
  cases h
theorem Ns202 : LpsOK Go.Proofs.Tryz.prog KZ 202 [(7, L202_0), (7, L202_1)] := by
  intro j q h
  cases j with | zero => (cases h; exact N202_0) | succ j =>
  cases j with | zero => (cases h; exact N202_1) | succ j =>
  cases h
theorem Ns214 : LpsOK Go.Proofs.Tryz.prog KZ 214 [(7, L214_0)] := by
  intro j q h
  cases j with | zero => (cases h; exact N214_0) | succ j =>
  cases h
theorem Ns219 : LpsOK Go.Proofs.Tryz.prog KZ 219 [(2, L219_0)] := by
  intro j q h
  cases j with | zero => (cases h; exact N219_0) | succ j =>
  cases h
theorem Ns228 : LpsOK Go.Proofs.Tryz.prog KZ 228 [(12, L228_0)] := by
  intro j q h
  cases j with | zero => (cases h; exact N228_0) | succ j =>
  cases h
theorem Ns229 : LpsOK Go.Proofs.Tryz.prog KZ 229 [(3, L229_0)] := by
  intro j q h
  cases j with | zero => (cases h; exact N229_0) | succ j =>
  cases h
theorem Ns230 : LpsOK Go.Proofs.Tryz.prog KZ 230 [(6, L230_0)] := by
  intro j q h
  cases j with | zero => (cases h; exact N230_0) | succ j =>
  cases h
theorem Ns231 : LpsOK Go.Proofs.Tryz.prog KZ 231 [(6, L231_0)] := by
  intro j q h
  cases j with | zero => (cases h; exact N231_0) | succ j =>
  cases h
theorem Ns252 : LpsOK Go.Proofs.Tryz.prog KZ 252 [(3, L252_0), (9, L252_1)] := by
  intro j q h
  cases j with | zero => (cases h; exact N252_0) | succ j =>
  cases j with | zero => (cases h; exact N252_1) | succ j =>
  cases h
theorem Ns255 : LpsOK Go.Proofs.Tryz.prog KZ 255 [(10, L255_0)] := by
  intro j q h
  cases j with | zero => (cases h; exact N255_0) | succ j =>
  cases h
theorem Ns256 : LpsOK Go.Proofs.Tryz.prog KZ 256 [(6, L256_0), (5, L256_1)] := by
  intro j q h
  cases j with | zero => (cases h; exact N256_0) | succ j =>
  cases j with | zero => (cases h; exact N256_1) | succ j =>
  cases h
theorem Ns257 : LpsOK Go.Proofs.Tryz.prog KZ 257 [(7, L257_0), (7, L257_1)] := by
  intro j q h
  cases j with | zero => (cases h; exact N257_0) | succ j =>
  cases j with | zero => (cases h; exact N257_1) | succ j =>
  cases h
theorem Ns258 : LpsOK Go.Proofs.Tryz.prog KZ 258 [(7, L258_0), (7, L258_1)] := by
  intro j q h
  cases j with | zero => (cases h; exact N258_0) | succ j =>
  cases j with | zero => (cases h; exact N258_1) | succ j =>
  cases h
theorem Ns262 : LpsOK Go.Proofs.Tryz.prog KZ 262 [(4, L262_0), (8, L262_1)] := by
  intro j q h
  cases j with | zero => (cases h; exact N262_0) | succ j =>
  cases j with | zero => (cases h; exact N262_1) | succ j =>
  cases h
theorem Ns312 : LpsOK Go.Proofs.Tryz.prog KZ 312 [(3, L312_0), (3, L312_1)] := by
  intro j q h
  cases j with | zero => (cases h; exact N312_0) | succ j =>
  cases j with | zero => (cases h; exact N312_1) | succ j =>
  cases h
noncomputable def dL : FT (List LpD) := (.node (.node (.node (.node (.node (.node .nil 3 [(4, L3_0)] .nil) 5 [(6, L5_0), (2, L5_1)] (.node .nil 7 [(4, L7_0)] .nil)) 8 [(2, L8_0), (6, L8_1), (5, L8_2)] (.node (.node .nil 9 [(3, L9_0)] .nil) 11 [(11, L11_0), (5, L11_1), (5, L11_2), (5, L11_3), (5, L11_4), (5, L11_5), (5, L11_6), (5, L11_7), (5, L11_8), (5, L11_9), (5, L11_10), (5, L11_11)] (.node .nil 13 [(18, L13_0), (9, L13_1)] .nil))) 24 [(9, L24_0), (5, L24_1)] (.node (.node (.node .nil 26 [(8, L26_0)] .nil) 28 [(7, L28_0)] (.node .nil 30 [(9, L30_0), (5, L30_1), (4, L30_2), (5, L30_3)] .nil)) 31 [(10, L31_0)] (.node (.node .nil 39 [(13, L39_0), (5, L39_1)] .nil) 42 [(5, L42_0), (10, L42_1)] .nil))) 44 [(9, L44_0)] (.node (.node (.node (.node .nil 50 [(5, L50_0)] .nil) 53 [(6, L53_0), (6, L53_1), (6, L53_2), (6, L53_3)] (.node .nil 57 [(5, L57_0)] .nil)) 59 [(5, L59_0), (5, L59_1)] (.node (.node .nil 60 [(5, L60_0), (6, L60_1)] .nil) 63 [(7, L63_0)] (.node .nil 68 [(7, L68_0)] .nil))) 69 [(7, L69_0)] (.node (.node (.node .nil 73 [(5, L73_0)] .nil) 84 [(6, L84_0)] (.node .nil 93 [(5, L93_0)] .nil)) 109 [(6, L109_0)] (.node (.node .nil 115 [(7, L115_0)] .nil) 123 [(5, L123_0)] .nil)))) 128 [(5, L128_0)] (.node (.node (.node (.node (.node .nil 130 [(6, L130_0)] .nil) 131 [(6, L131_0)] (.node .nil 137 [(7, L137_0)] .nil)) 141 [(6, L141_0)] (.node (.node .nil 154 [(7, L154_0), (2, L154_1), (5, L154_2), (2, L154_3)] .nil) 170 [(6, L170_0), (6, L170_1)] (.node .nil 175 [(8, L175_0)] .nil))) 176 [(7, L176_0)] (.node (.node (.node .nil 186 [(5, L186_0)] .nil) 196 [(6, L196_0)] (.node .nil 197 [(6, L197_0)] .nil)) 198 [(6, L198_0)] (.node (.node .nil 199 [(6, L199_0)] .nil) 201 [(3, L201_0)] .nil))) 202 [(7, L202_0), (7, L202_1)] (.node (.node (.node (.node .nil 214 [(7, L214_0)] .nil) 219 [(2, L219_0)] (.node .nil 228 [(12, L228_0)] .nil)) 229 [(3, L229_0)] (.node (.node .nil 230 [(6, L230_0)] .nil) 231 [(6, L231_0)] .nil)) 252 [(3, L252_0), (9, L252_1)] (.node (.node (.node .nil 255 [(10, L255_0)] .nil) 256 [(6, L256_0), (5, L256_1)] (.node .nil 257 [(7, L257_0), (7, L257_1)] .nil)) 258 [(7, L258_0), (7, L258_1)] (.node (.node .nil 262 [(4, L262_0), (8, L262_1)] .nil) 312 [(3, L312_0), (3, L312_1)] .nil)))))
theorem dL_ok : dL.All (LpsOK Go.Proofs.Tryz.prog KZ) := ⟨⟨⟨⟨⟨⟨trivial, Ns3, trivial⟩, Ns5, ⟨trivial, Ns7, trivial⟩⟩, Ns8, ⟨⟨trivial, Ns9, trivial⟩, Ns11, ⟨trivial, Ns13, trivial⟩⟩⟩, Ns24, ⟨⟨⟨trivial, Ns26, trivial⟩, Ns28, ⟨trivial, Ns30, trivial⟩⟩, Ns31, ⟨⟨trivial, Ns39, trivial⟩, Ns42, trivial⟩⟩⟩, Ns44, ⟨⟨⟨⟨trivial, Ns50, trivial⟩, Ns53, ⟨trivial, Ns57, trivial⟩⟩, Ns59, ⟨⟨trivial, Ns60, trivial⟩, Ns63, ⟨trivial, Ns68, trivial⟩⟩⟩, Ns69, ⟨⟨⟨trivial, Ns73, trivial⟩, Ns84, ⟨trivial, Ns93, trivial⟩⟩, Ns109, ⟨⟨trivial, Ns115, trivial⟩, Ns123, trivial⟩⟩⟩⟩, Ns128, ⟨⟨⟨⟨⟨trivial, Ns130, trivial⟩, Ns131, ⟨trivial, Ns137, trivial⟩⟩, Ns141, ⟨⟨trivial, Ns154, trivial⟩, Ns170, ⟨trivial, Ns175, trivial⟩⟩⟩, Ns176, ⟨⟨⟨trivial, Ns186, trivial⟩, Ns196, ⟨trivial, Ns197, trivial⟩⟩, Ns198, ⟨⟨trivial, Ns199, trivial⟩, Ns201, trivial⟩⟩⟩, Ns202, ⟨⟨⟨⟨trivial, Ns214, trivial⟩, Ns219, ⟨trivial, Ns228, trivial⟩⟩, Ns229, ⟨⟨trivial, Ns230, trivial⟩, Ns231, trivial⟩⟩, Ns252, ⟨⟨⟨trivial, Ns255, trivial⟩, Ns256, ⟨trivial, Ns257, trivial⟩⟩, Ns258, ⟨⟨trivial, Ns262, trivial⟩, Ns312, trivial⟩⟩⟩⟩⟩
end Go.Cn
