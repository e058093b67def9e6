/- Where the results of the functions lie. Printed by results.py. -/
import Derived.Test.YtfmllefmfhefpaaAbT
namespace Go.Proofs.Ytfmllefmfhefpaa
open Go Go.Ab
@[go_sem] theorem res0 : Try.f0.results.toList = [] := rfl
@[go_sem] theorem res1 : Try.f1.results.toList = [] := rfl
@[go_sem] theorem res2 : Try.f2.results.toList = [] := rfl
@[go_sem] theorem res3 : Try.f3.results.toList = [.tmp 2] := rfl
@[go_sem] theorem res4 : Try.f4.results.toList = [.tmp 2] := rfl
@[go_sem] theorem res5 : Try.f5.results.toList = [.tmp 2] := rfl
@[go_sem] theorem res6 : Try.f6.results.toList = [.tmp 4] := rfl
@[go_sem] theorem res7 : Try.f7.results.toList = [.tmp 4] := rfl
@[go_sem] theorem res8 : Try.f8.results.toList = [.tmp 4] := rfl
@[go_sem] theorem res9 : Try.f9.results.toList = [.tmp 2] := rfl
@[go_sem] theorem res10 : Try.f10.results.toList = [.cell 2 29] := rfl
@[go_sem] theorem res11 : Try.f11.results.toList = [.tmp 2] := rfl
@[go_sem] theorem res12 : Try.f12.results.toList = [.tmp 4] := rfl
@[go_sem] theorem res13 : Try.f13.results.toList = [.tmp 4] := rfl
@[go_sem] theorem res14 : Try.f14.results.toList = [.tmp 2] := rfl
@[go_sem] theorem res15 : Try.f15.results.toList = [.cell 2 44] := rfl
@[go_sem] theorem res16 : Try.f16.results.toList = [.tmp 2] := rfl
@[go_sem] theorem res17 : Try.f17.results.toList = [.tmp 4] := rfl
@[go_sem] theorem res18 : Try.f18.results.toList = [.tmp 2] := rfl
@[go_sem] theorem res19 : Try.f19.results.toList = [.tmp 2] := rfl
@[go_sem] theorem res20 : Try.f20.results.toList = [.tmp 4] := rfl
@[go_sem] theorem res21 : Try.f21.results.toList = [.tmp 4] := rfl
@[go_sem] theorem res22 : Try.f22.results.toList = [.tmp 4] := rfl
@[go_sem] theorem res23 : Try.f23.results.toList = [.tmp 4] := rfl
@[go_sem] theorem res24 : Try.f24.results.toList = [.tmp 4] := rfl
@[go_sem] theorem res25 : Try.f25.results.toList = [.tmp 4] := rfl
@[go_sem] theorem res26 : Try.f26.results.toList = [.tmp 4, .tmp 5] := rfl
@[go_sem] theorem res27 : Try.f27.results.toList = [.cell 2 63] := rfl
@[go_sem] theorem res28 : Try.f28.results.toList = [.cell 2 42] := rfl
@[go_sem] theorem res29 : Try.f29.results.toList = [.tmp 4, .tmp 5] := rfl
@[go_sem] theorem res30 : Try.f30.results.toList = [.tmp 4] := rfl
@[go_sem] theorem res31 : Try.f31.results.toList = [.tmp 4] := rfl
@[go_sem] theorem res32 : Try.f32.results.toList = [.tmp 4] := rfl
@[go_sem] theorem res33 : Try.f33.results.toList = [.tmp 4] := rfl
@[go_sem] theorem res34 : Try.f34.results.toList = [.tmp 4] := rfl
@[go_sem] theorem res35 : Try.f35.results.toList = [.tmp 4] := rfl
@[go_sem] theorem res36 : Try.f36.results.toList = [.tmp 4] := rfl
@[go_sem] theorem res37 : Try.f37.results.toList = [.tmp 4] := rfl
@[go_sem] theorem res38 : Try.f38.results.toList = [.cell 4 79] := rfl
@[go_sem] theorem res39 : Try.f39.results.toList = [.cell 2 79] := rfl
@[go_sem] theorem res40 : Try.f40.results.toList = [.cell 4 79] := rfl
@[go_sem] theorem res41 : Try.f41.results.toList = [.tmp 4] := rfl
@[go_sem] theorem res42 : Try.f42.results.toList = [.tmp 4] := rfl
@[go_sem] theorem res43 : Try.f43.results.toList = [.tmp 4] := rfl
@[go_sem] theorem res44 : Try.f44.results.toList = [.tmp 4] := rfl
@[go_sem] theorem res45 : Try.f45.results.toList = [.tmp 2] := rfl
@[go_sem] theorem res46 : Try.f46.results.toList = [.tmp 2] := rfl
@[go_sem] theorem res47 : Try.f47.results.toList = [.tmp 2] := rfl
@[go_sem] theorem res48 : Try.f48.results.toList = [.tmp 2] := rfl
@[go_sem] theorem res49 : Try.f49.results.toList = [.tmp 2] := rfl
@[go_sem] theorem res50 : Try.f50.results.toList = [.tmp 4] := rfl
@[go_sem] theorem res51 : Try.f51.results.toList = [.tmp 4] := rfl
@[go_sem] theorem res52 : Try.f52.results.toList = [.tmp 4] := rfl
@[go_sem] theorem res53 : Try.f53.results.toList = [.tmp 4] := rfl
@[go_sem] theorem res54 : Try.f54.results.toList = [.tmp 4] := rfl
@[go_sem] theorem res55 : Try.f55.results.toList = [.tmp 4] := rfl
@[go_sem] theorem res56 : Try.f56.results.toList = [.tmp 4] := rfl
@[go_sem] theorem res57 : Try.f57.results.toList = [.tmp 2] := rfl
@[go_sem] theorem res58 : Try.f58.results.toList = [.tmp 4] := rfl
@[go_sem] theorem res59 : Try.f59.results.toList = [.tmp 4] := rfl
@[go_sem] theorem res60 : Try.f60.results.toList = [.tmp 4] := rfl
@[go_sem] theorem res61 : Try.f61.results.toList = [.tmp 4] := rfl
@[go_sem] theorem res62 : Try.f62.results.toList = [.tmp 6] := rfl
@[go_sem] theorem res63 : Try.f63.results.toList = [.tmp 6] := rfl
@[go_sem] theorem res64 : Try.f64.results.toList = [.tmp 2] := rfl
@[go_sem] theorem res65 : Try.f65.results.toList = [.tmp 2] := rfl
@[go_sem] theorem res66 : Try.f66.results.toList = [.tmp 2] := rfl
@[go_sem] theorem res67 : Try.f67.results.toList = [.tmp 2] := rfl
@[go_sem] theorem res68 : Try.f68.results.toList = [.tmp 8] := rfl
@[go_sem] theorem res69 : Try.f69.results.toList = [.tmp 6] := rfl
@[go_sem] theorem res70 : Try.f70.results.toList = [.tmp 4] := rfl
@[go_sem] theorem res71 : Try.f71.results.toList = [.tmp 4] := rfl
@[go_sem] theorem res72 : Try.f72.results.toList = [.tmp 4] := rfl
@[go_sem] theorem res73 : Try.f73.results.toList = [.tmp 4] := rfl
@[go_sem] theorem res74 : Try.f74.results.toList = [.tmp 4] := rfl
@[go_sem] theorem res75 : Try.f75.results.toList = [.tmp 4] := rfl
@[go_sem] theorem res76 : Try.f76.results.toList = [.tmp 4] := rfl
@[go_sem] theorem res77 : Try.f77.results.toList = [.tmp 4] := rfl
@[go_sem] theorem res78 : Try.f78.results.toList = [.tmp 4] := rfl
@[go_sem] theorem res79 : Try.f79.results.toList = [.tmp 4] := rfl
@[go_sem] theorem res80 : Try.f80.results.toList = [.tmp 2] := rfl
@[go_sem] theorem res81 : Try.f81.results.toList = [.tmp 6] := rfl
@[go_sem] theorem res82 : Try.f82.results.toList = [.cell 2 79] := rfl
@[go_sem] theorem res83 : Try.f83.results.toList = [.tmp 4] := rfl
@[go_sem] theorem res84 : Try.f84.results.toList = [.tmp 4] := rfl
@[go_sem] theorem res85 : Try.f85.results.toList = [.cell 2 126] := rfl
@[go_sem] theorem res86 : Try.f86.results.toList = [.tmp 4] := rfl
@[go_sem] theorem res87 : Try.f87.results.toList = [.tmp 2] := rfl
@[go_sem] theorem res88 : Try.f88.results.toList = [.cell 2 79] := rfl
@[go_sem] theorem res89 : Try.f89.results.toList = [.tmp 2] := rfl
@[go_sem] theorem res90 : Try.f90.results.toList = [.tmp 4] := rfl
@[go_sem] theorem res91 : Try.f91.results.toList = [.cell 4 79, .tmp 5] := rfl
@[go_sem] theorem res92 : Try.f92.results.toList = [.tmp 4] := rfl
@[go_sem] theorem res93 : Try.f93.results.toList = [.tmp 4] := rfl
@[go_sem] theorem res94 : Try.f94.results.toList = [.tmp 4] := rfl
@[go_sem] theorem res95 : Try.f95.results.toList = [.tmp 4] := rfl
@[go_sem] theorem res96 : Try.f96.results.toList = [.tmp 4] := rfl
@[go_sem] theorem res97 : Try.f97.results.toList = [.tmp 2] := rfl
@[go_sem] theorem res98 : Try.f98.results.toList = [.cell 2 91] := rfl
@[go_sem] theorem res99 : Try.f99.results.toList = [.tmp 2] := rfl
@[go_sem] theorem res100 : Try.f100.results.toList = [.tmp 2] := rfl
@[go_sem] theorem res101 : Try.f101.results.toList = [.tmp 2] := rfl
@[go_sem] theorem res102 : Try.f102.results.toList = [.tmp 4] := rfl
@[go_sem] theorem res103 : Try.f103.results.toList = [.tmp 6] := rfl
@[go_sem] theorem res104 : Try.f104.results.toList = [.tmp 6] := rfl
@[go_sem] theorem res105 : Try.f105.results.toList = [.tmp 2] := rfl
@[go_sem] theorem res106 : Try.f106.results.toList = [.tmp 2] := rfl
@[go_sem] theorem res107 : Try.f107.results.toList = [.tmp 2] := rfl
@[go_sem] theorem res108 : Try.f108.results.toList = [.tmp 4] := rfl
@[go_sem] theorem res109 : Try.f109.results.toList = [.tmp 2] := rfl
@[go_sem] theorem res110 : Try.f110.results.toList = [.tmp 4] := rfl
@[go_sem] theorem res111 : Try.f111.results.toList = [.tmp 2] := rfl
@[go_sem] theorem res112 : Try.f112.results.toList = [.tmp 6] := rfl
@[go_sem] theorem res113 : Try.f113.results.toList = [.tmp 4] := rfl
@[go_sem] theorem res114 : Try.f114.results.toList = [.tmp 4] := rfl
@[go_sem] theorem res115 : Try.f115.results.toList = [.tmp 4, .tmp 5, .tmp 6] := rfl
@[go_sem] theorem res116 : Try.f116.results.toList = [.tmp 4] := rfl
@[go_sem] theorem res117 : Try.f117.results.toList = [.tmp 4] := rfl
@[go_sem] theorem res118 : Try.f118.results.toList = [.tmp 3] := rfl
@[go_sem] theorem res119 : Try.f119.results.toList = [.tmp 4, .tmp 5, .tmp 6] := rfl
@[go_sem] theorem res120 : Try.f120.results.toList = [.tmp 4] := rfl
@[go_sem] theorem res121 : Try.f121.results.toList = [.tmp 3] := rfl
@[go_sem] theorem res122 : Try.f122.results.toList = [.tmp 4] := rfl
@[go_sem] theorem res123 : Try.f123.results.toList = [.tmp 4] := rfl
@[go_sem] theorem res124 : Try.f124.results.toList = [.tmp 4] := rfl
@[go_sem] theorem res125 : Try.f125.results.toList = [.cell 2 42] := rfl
@[go_sem] theorem res126 : Try.f126.results.toList = [.tmp 2] := rfl
@[go_sem] theorem res127 : Try.f127.results.toList = [.cell 2 126] := rfl
@[go_sem] theorem res128 : Try.f128.results.toList = [.cell 2 126] := rfl
@[go_sem] theorem res129 : Try.f129.results.toList = [.tmp 6] := rfl
@[go_sem] theorem res130 : Try.f130.results.toList = [.tmp 4] := rfl
@[go_sem] theorem res131 : Try.f131.results.toList = [.tmp 4] := rfl
@[go_sem] theorem res132 : Try.f132.results.toList = [.tmp 4] := rfl
@[go_sem] theorem res133 : Try.f133.results.toList = [.tmp 4] := rfl
@[go_sem] theorem res134 : Try.f134.results.toList = [.tmp 4] := rfl
@[go_sem] theorem res135 : Try.f135.results.toList = [.tmp 4] := rfl
@[go_sem] theorem res136 : Try.f136.results.toList = [.tmp 4] := rfl
@[go_sem] theorem res137 : Try.f137.results.toList = [.tmp 4] := rfl
@[go_sem] theorem res138 : Try.f138.results.toList = [.tmp 2] := rfl
@[go_sem] theorem res139 : Try.f139.results.toList = [.tmp 4] := rfl
@[go_sem] theorem res140 : Try.f140.results.toList = [.tmp 2] := rfl
@[go_sem] theorem res141 : Try.f141.results.toList = [.tmp 6] := rfl
@[go_sem] theorem res142 : Try.f142.results.toList = [.tmp 4] := rfl
@[go_sem] theorem res143 : Try.f143.results.toList = [.tmp 4] := rfl
@[go_sem] theorem res144 : Try.f144.results.toList = [.tmp 4] := rfl
@[go_sem] theorem res145 : Try.f145.results.toList = [.tmp 2] := rfl
@[go_sem] theorem res146 : Try.f146.results.toList = [.tmp 2] := rfl
@[go_sem] theorem res147 : Try.f147.results.toList = [.tmp 2] := rfl
@[go_sem] theorem res148 : Try.f148.results.toList = [.tmp 4] := rfl
@[go_sem] theorem res149 : Try.f149.results.toList = [.tmp 2] := rfl
@[go_sem] theorem res150 : Try.f150.results.toList = [.tmp 6] := rfl
@[go_sem] theorem res151 : Try.f151.results.toList = [] := rfl
@[go_sem] theorem res152 : Try.f152.results.toList = [.tmp 4] := rfl
@[go_sem] theorem res153 : Try.f153.results.toList = [.tmp 3] := rfl
@[go_sem] theorem res154 : Try.f154.results.toList = [] := rfl
@[go_sem] theorem res155 : Try.f155.results.toList = [] := rfl
@[go_sem] theorem res156 : Try.f156.results.toList = [.tmp 4] := rfl
@[go_sem] theorem res157 : Try.f157.results.toList = [.tmp 4] := rfl
@[go_sem] theorem res158 : Try.f158.results.toList = [.tmp 4] := rfl
@[go_sem] theorem res159 : Try.f159.results.toList = [.tmp 4] := rfl
@[go_sem] theorem res160 : Try.f160.results.toList = [.tmp 4] := rfl
@[go_sem] theorem res161 : Try.f161.results.toList = [.tmp 3] := rfl
@[go_sem] theorem res162 : Try.f162.results.toList = [.tmp 4] := rfl
@[go_sem] theorem res163 : Try.f163.results.toList = [.tmp 4] := rfl
@[go_sem] theorem res164 : Try.f164.results.toList = [.tmp 2] := rfl
@[go_sem] theorem res165 : Try.f165.results.toList = [.tmp 2] := rfl
@[go_sem] theorem res166 : Try.f166.results.toList = [.tmp 4] := rfl
@[go_sem] theorem res167 : Try.f167.results.toList = [.tmp 4] := rfl
@[go_sem] theorem res168 : Try.f168.results.toList = [.tmp 4] := rfl
@[go_sem] theorem res169 : Try.f169.results.toList = [.tmp 4] := rfl
@[go_sem] theorem res170 : Try.f170.results.toList = [.tmp 2] := rfl
@[go_sem] theorem res171 : Try.f171.results.toList = [.tmp 2] := rfl
@[go_sem] theorem res172 : Try.f172.results.toList = [.cell 2 42] := rfl
@[go_sem] theorem res173 : Try.f173.results.toList = [.tmp 2] := rfl
@[go_sem] theorem res174 : Try.f174.results.toList = [.tmp 2] := rfl
@[go_sem] theorem res175 : Try.f175.results.toList = [.tmp 2] := rfl
@[go_sem] theorem res176 : Try.f176.results.toList = [.tmp 4] := rfl
@[go_sem] theorem res177 : Try.f177.results.toList = [.tmp 4] := rfl
@[go_sem] theorem res178 : Try.f178.results.toList = [.tmp 2] := rfl
@[go_sem] theorem res179 : Try.f179.results.toList = [.tmp 2] := rfl
@[go_sem] theorem res180 : Try.f180.results.toList = [.tmp 2] := rfl
@[go_sem] theorem res181 : Try.f181.results.toList = [.tmp 2] := rfl
@[go_sem] theorem res182 : Try.f182.results.toList = [.tmp 4] := rfl
@[go_sem] theorem res183 : Try.f183.results.toList = [.tmp 2] := rfl
@[go_sem] theorem res184 : Try.f184.results.toList = [.tmp 2] := rfl
@[go_sem] theorem res185 : Try.f185.results.toList = [.tmp 2] := rfl
@[go_sem] theorem res186 : Try.f186.results.toList = [.tmp 4] := rfl
@[go_sem] theorem res187 : Try.f187.results.toList = [.tmp 4] := rfl
@[go_sem] theorem res188 : Try.f188.results.toList = [.tmp 2] := rfl
@[go_sem] theorem res189 : Try.f189.results.toList = [] := rfl
@[go_sem] theorem res190 : Try.f190.results.toList = [] := rfl
@[go_sem] theorem res191 : Try.f191.results.toList = [] := rfl
@[go_sem] theorem res192 : Try.f192.results.toList = [.tmp 4] := rfl
@[go_sem] theorem res193 : Try.f193.results.toList = [.tmp 2] := rfl
@[go_sem] theorem res194 : Try.f194.results.toList = [.tmp 4] := rfl
@[go_sem] theorem res195 : Try.f195.results.toList = [.cell 2 189] := rfl
@[go_sem] theorem res196 : Try.f196.results.toList = [.tmp 2] := rfl
@[go_sem] theorem res197 : Try.f197.results.toList = [.tmp 4] := rfl
@[go_sem] theorem res198 : Try.f198.results.toList = [.tmp 4] := rfl
@[go_sem] theorem res199 : Try.f199.results.toList = [.tmp 2] := rfl
@[go_sem] theorem res200 : Try.f200.results.toList = [] := rfl
@[go_sem] theorem res201 : Try.f201.results.toList = [] := rfl
@[go_sem] theorem res202 : Try.f202.results.toList = [] := rfl
@[go_sem] theorem res203 : Try.f203.results.toList = [] := rfl
@[go_sem] theorem res204 : Try.f204.results.toList = [] := rfl
@[go_sem] theorem res205 : Try.f205.results.toList = [] := rfl
@[go_sem] theorem res206 : Try.f206.results.toList = [] := rfl
@[go_sem] theorem res207 : Try.f207.results.toList = [] := rfl
@[go_sem] theorem res208 : Try.f208.results.toList = [] := rfl
@[go_sem] theorem res209 : Try.f209.results.toList = [] := rfl
@[go_sem] theorem res210 : Try.f210.results.toList = [] := rfl
@[go_sem] theorem res211 : Try.f211.results.toList = [] := rfl
@[go_sem] theorem res212 : Try.f212.results.toList = [] := rfl
@[go_sem] theorem res213 : Try.f213.results.toList = [] := rfl
@[go_sem] theorem res214 : Try.f214.results.toList = [] := rfl
@[go_sem] theorem res215 : Try.f215.results.toList = [] := rfl
-- nt 0:0 1:0 2:1 3:27 4:27 5:69 6:119 7:74 8:12 9:11 10:9 11:11 12:11 13:18 14:13 15:13 16:8 17:17 18:51 19:38 20:27 21:10 22:28 23:32 24:42 25:19 26:23 27:32 28:15 29:19 30:27 31:46 32:21 33:30 34:10 35:28 36:32 37:12 38:116 39:9 40:25 41:11 42:10 43:12 44:27 45:19 46:26 47:23 48:116 49:24 50:27 51:13 52:12 53:19 54:9 55:15 56:68 57:20 58:28 59:12 60:27 61:27 62:76 63:77 64:22 65:22 66:23 67:23 68:57 69:67 70:15 71:26 72:26 73:27 74:27 75:20 76:19 77:19 78:35 79:27 80:91 81:15 82:25 83:18 84:41 85:28 86:15 87:23 88:22 89:124 90:11 91:118 92:27 93:96 94:118 95:38 96:87 97:20 98:23 99:54 100:6 101:42 102:9 103:17 104:11 105:6 106:36 107:5 108:9 109:8 110:33 111:15 112:54 113:14 114:19 115:80 116:24 117:9 118:9 119:66 120:19 121:9 122:44 123:41 124:38 125:29 126:28 127:36 128:20 129:15 130:9 131:36 132:54 133:46 134:41 135:21 136:22 137:54 138:54 139:19 140:6 141:34 142:22 143:44 144:34 145:16 146:16 147:9 148:9 149:6 150:41 151:7 152:19 153:8 154:20 155:46 156:35 157:15 158:27 159:10 160:19 161:8 162:10 163:27 164:22 165:20 166:27 167:36 168:8 169:27 170:4 171:23 172:11 173:8 174:8 175:23 176:19 177:27 178:20 179:20 180:19 181:16 182:36 183:9 184:22 185:9 186:27 187:19 188:49 189:25 190:20 191:15 192:10 193:49 194:19 195:12 196:19 197:16 198:36 199:9 200:1 201:1 202:1 203:1 204:1 205:1 206:1 207:1 208:1 209:1 210:1 211:1 212:1 213:1 214:1 215:1
end Go.Proofs.Ytfmllefmfhefpaa
